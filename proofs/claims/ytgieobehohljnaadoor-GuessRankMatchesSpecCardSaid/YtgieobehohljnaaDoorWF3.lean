import Derived.Test.YtgieobehohljnaaDoorWF2
namespace Go.Abs
set_option linter.unusedVariables false
set_option maxRecDepth 100000

/-! ### 3 glosswright/glosswrightlaw6.GuessRankMatchesSpec -/
def f3_r1 (m : Nat) (v20 : Bool) : Option Bool :=
  some v20
def f3_r2 (m : Nat) (v4 : ((List S44) × S27)) (v12 : Bool) : Option Bool :=
  f3_r1 m ((v12 && (((v4.1.length : Int)) == 0)))
def f3_r3 (m : Nat) (v38 : Bool) : Option Bool :=
  some v38
def f3_r4 (m : Nat) (a0 : (List S39)) (a1 : ByteArray) (v4 : ((List S44) × S27)) (v28 : Bool) : Option Bool :=
  bnd (cnd v28
  (bnd (f15 m a0 a1) fun v40 =>
  bnd (f14 m v4.1 v40) fun v41 =>
  some v41)
  (some false)) fun v38 =>
  f3_r3 m v38
def f3 (m : Nat) (a0 : (List S39)) (a1 : ByteArray) : Option Bool :=
  bnd (f9 m ) fun v1 =>
  cnd (!v1)
  (some false)
  (bnd (f10 m a0) fun v2 =>
  bnd (f11 m a0) fun v3 =>
  cnd (!((v3.fCode == 0) && ((v3.fIndex == 0) && true)))
  (some (((v2.2.fCode == v3.fCode) && ((v2.2.fIndex == v3.fIndex) && true))))
  (bnd (f12 m v2.1 a1) fun v4 =>
  bnd (f13 m a1) fun v5 =>
  cnd (!v5)
  (f3_r2 m v4 (((((v2.2.fCode == 0) && ((v2.2.fIndex == 0) && true))) && (((v4.2.fCode == 5) && ((v4.2.fIndex == (-1)) && true))))))
  (f3_r4 m a0 a1 v4 (((((v2.2.fCode == 0) && ((v2.2.fIndex == 0) && true))) && (((v4.2.fCode == 0) && ((v4.2.fIndex == 0) && true))))))))
noncomputable abbrev X3 (n : Nat) : Cx := cxOf Proofs.Tryd.prog EG 3 n
noncomputable def C3 : Code := bodyOf Proofs.Tryd.prog 3
theorem ok3 (m : Nat) (a0 : (List S39)) (a1 : ByteArray) (o : Bool) (h : f3 m a0 a1 = some o) (n : Nat) (hn : m + 6 ≤ n) : Fn Proofs.Tryd.prog EG n 3 [.v ((eL e39) a0), .v (eS a1)] (eB o) := by
  obtain ⟨n, rfl⟩ : ∃ q, n = q + 1 := ⟨n - 1, by omega⟩
  unfold f3 at h
  refine Fn.of (by kernel_rfl) (by kernel_rfl) (by kernel_rfl) ⟨(dP e39 a0) :: (.v (.str a1)) :: u40 (u20 []), []⟩ (by kernel_rfl) ?_
  refine Wp.seq' (by kernel_rfl) ?_
  refine Wp.region (by kernel_rfl) ?_
  refine Ops.seg' 1 1 (by kernel_rfl) ?_
  refine Ops.done (by kernel_rfl) ?_
  refine seqQ.n ?_
  refine Wp.seq' (by kernel_rfl) ?_
  refine Wp.seq' (by kernel_rfl) ?_
  refine Wp.region (by kernel_rfl) ?_
  obtain ⟨v1, ev1, h⟩ := bnd_some h
  refine Ops.one' 1 (fun h0 e0 => (call_ok (E' := EG) (h := h0) (by kernel_rfl) Args.nil (ok9 m  v1 ev1 n (by omega)))) (by kernel_rfl) (by kernel_rfl) ?_
  refine Ops.seg' 1 2 (by kernel_rfl) ?_
  refine Ops.done (by kernel_rfl) ?_
  refine seqQ.n ?_
  refine Wp.cnd h [0, 1, 4] 0 (by kernel_rfl) (fun h => ?_) (fun h => ?_)
  · refine Wp.seq' (by kernel_rfl) ?_
    refine Wp.region (by kernel_rfl) ?_
    refine Ops.seg' 1 1 (by kernel_rfl) ?_
    refine Ops.done (by kernel_rfl) ?_
    refine seqQ.n ?_
    refine Wp.ret (by kernel_rfl) ?_
    refine sqQ.r ?_
    refine seqQ.r ?_
    exact fnQ.r' (X3 n) (fun z => (eB z)) h (RetOk.mk' (dB false) (by kernel_rfl) (by kernel_rfl))
  · refine Wp.skip (by kernel_rfl) ?_
    refine sqQ.n' ?_
    refine seqQ.n ?_
    refine Wp.seq' (by kernel_rfl) ?_
    refine Wp.region (by kernel_rfl) ?_
    refine Ops.seg' 1 1 (by kernel_rfl) ?_
    obtain ⟨v2, ev2, h⟩ := bnd_some h
    refine Ops.one' 2 (fun h0 e0 => (call_ok (E' := EG) (h := h0) (by kernel_rfl) (Args.v (vP e39 a0) ((eL e39) a0) (by kernel_rfl) Args.nil) (ok10 m a0 v2 ev2 n (by omega)))) (by kernel_rfl) (by kernel_rfl) ?_
    refine Ops.seg' 5 7 (by kernel_rfl) ?_
    refine Ops.one' 8 (fun h0 e0 => (stc (i := ti26) (h := h0) (r := 0) (off := 0) (cs := [(.v (eGz none))]) (cs' := [(.v (eGz v2.1.fRoot))]) (x := (.v (.agg [(eGz v2.1.fRoot)]))) (hq_of (g := [(.cells [(.v (eGz none))]), (.cells [(dI 0), (dI 0)])]) (e0.trans (by kernel_rfl)) rfl) (solid_e25 v2.1.fRoot) (by rfl))) (by kernel_rfl) (by kernel_rfl) ?_
    refine Ops.seg' 1 9 (by kernel_rfl) ?_
    refine Ops.done (by kernel_rfl) ?_
    refine seqQ.n ?_
    refine Wp.seq' (by kernel_rfl) ?_
    refine Wp.seq' (by kernel_rfl) ?_
    refine Wp.region (by kernel_rfl) ?_
    refine Ops.seg' 1 1 (by kernel_rfl) ?_
    obtain ⟨v3, ev3, h⟩ := bnd_some h
    refine Ops.one' 2 (fun h0 e0 => (call_ok (E' := EG) (h := h0) (by kernel_rfl) (Args.v (vP e39 a0) ((eL e39) a0) (by kernel_rfl) Args.nil) (ok11 m a0 v3 ev3 n (by omega)))) (by kernel_rfl) (by kernel_rfl) ?_
    refine Ops.seg' 2 4 (by kernel_rfl) ?_
    refine Ops.done (by kernel_rfl) ?_
    refine seqQ.n ?_
    refine Wp.seq' (by kernel_rfl) ?_
    refine Wp.region (by kernel_rfl) ?_
    refine Ops.seg' 3 3 (by kernel_rfl) ?_
    refine Ops.done (by kernel_rfl) ?_
    refine seqQ.n ?_
    refine Wp.cnd h [0, 1, 4, 5, 6] 3 (by kernel_rfl) (fun h => ?_) (fun h => ?_)
    · refine Wp.seq' (by kernel_rfl) ?_
      refine Wp.region (by kernel_rfl) ?_
      refine Ops.seg' 4 4 (by kernel_rfl) ?_
      refine Ops.done (by kernel_rfl) ?_
      refine seqQ.n ?_
      refine Wp.ret (by kernel_rfl) ?_
      refine sqQ.r ?_
      refine seqQ.r ?_
      exact fnQ.r' (X3 n) (fun z => (eB z)) h (RetOk.mk' (dB (((v2.2.fCode == v3.fCode) && ((v2.2.fIndex == v3.fIndex) && true)))) (by kernel_rfl) (by kernel_rfl))
    · refine Wp.skip (by kernel_rfl) ?_
      refine sqQ.n' ?_
      refine seqQ.n ?_
      refine Wp.seq' (by kernel_rfl) ?_
      refine Wp.region (by kernel_rfl) ?_
      refine Ops.seg' 2 2 (by kernel_rfl) ?_
      obtain ⟨v4, ev4, h⟩ := bnd_some h
      refine Ops.one' 3 (fun h0 e0 => (call_ok (E' := EG) (h := h0) (by kernel_rfl) (Args.v (.agg [(eGz v2.1.fRoot)]) (e25 v2.1) (plain_e25 _) (Args.v (.str a1) (eS a1) (by kernel_rfl) Args.nil)) (ok12 m v2.1 a1 v4 ev4 n (by omega)))) (by kernel_rfl) (by kernel_rfl) ?_
      refine Ops.seg' 6 9 (by kernel_rfl) ?_
      refine Ops.done (by kernel_rfl) ?_
      refine seqQ.n ?_
      refine Wp.seq' (by kernel_rfl) ?_
      refine Wp.seq' (by kernel_rfl) ?_
      refine Wp.region (by kernel_rfl) ?_
      refine Ops.seg' 1 1 (by kernel_rfl) ?_
      obtain ⟨v5, ev5, h⟩ := bnd_some h
      refine Ops.one' 2 (fun h0 e0 => (call_ok (E' := EG) (h := h0) (by kernel_rfl) (Args.v (.str a1) (eS a1) (by kernel_rfl) Args.nil) (ok13 m a1 v5 ev5 n (by omega)))) (by kernel_rfl) (by kernel_rfl) ?_
      refine Ops.seg 1 3 (by kernel_rfl) ⟨(dP e39 a0) :: (.v (.str a1)) :: u2 ((dB false) :: (.ptr 0 0) :: (.ptr 1 0) :: (.ptr 2 0) :: (dP e44 v4.1) :: (.ptr 3 0) :: (dB v1) :: (dB (!v1)) :: (.v (.tuple [(.agg [(eGz v2.1.fRoot)]), (.agg [(vI v2.2.fCode), (vI v2.2.fIndex)])])) :: (dP e39 a0) :: (.v (.tuple [(.agg [(eGz v2.1.fRoot)]), (.agg [(vI v2.2.fCode), (vI v2.2.fIndex)])])) :: (.v (.agg [(eGz v2.1.fRoot)])) :: (.v (.agg [(vI v2.2.fCode), (vI v2.2.fIndex)])) :: (dP e39 a0) :: (.v (.agg [(vI v3.fCode), (vI v3.fIndex)])) :: (.v (.agg [(vI v3.fCode), (vI v3.fIndex)])) :: (.v (.agg [(vI 0), (vI 0)])) :: (dB (!((v3.fCode == 0) && ((v3.fIndex == 0) && true)))) :: u3 ((.v (.tuple [(vP e44 v4.1), (.agg [(vI v4.2.fCode), (vI v4.2.fIndex)])])) :: (.v (.agg [(eGz v2.1.fRoot)])) :: (.v (.str a1)) :: (.v (.tuple [(vP e44 v4.1), (.agg [(vI v4.2.fCode), (vI v4.2.fIndex)])])) :: (dP e44 v4.1) :: (.v (.agg [(vI v4.2.fCode), (vI v4.2.fIndex)])) :: (.v (.str a1)) :: (dB v5) :: (dB (!v5)) :: u28 [])), [(.cells [(.v (eGz v2.1.fRoot))]), (.cells [(dI v2.2.fCode), (dI v2.2.fIndex)]), (.cells [(dI v3.fCode), (dI v3.fIndex)]), (.cells [(dI v4.2.fCode), (dI v4.2.fIndex)])]⟩ (by kernel_rfl) ?_
      refine Ops.done (by kernel_rfl) ?_
      refine seqQ.n ?_
      refine Wp.cnd h [0, 1, 4, 6, 8, 9] 4 (by kernel_rfl) (fun h => ?_) (fun h => ?_)
      · refine Wp.seq' (by kernel_rfl) ?_
        refine Wp.region (by kernel_rfl) ?_
        refine Ops.seg' 4 4 (by kernel_rfl) ?_
        have J3j13 : ∀ (d8 d9 d10 : D) (v11 : Bool) (v12 : Bool), f3_r2 m v4 v12 = some o → Ops (X3 n) (opl (cL (cL (cR (cL (cR (cR (cR (cR (cR C3)))))))))) 8 ⟨(dP e39 a0) :: (.v (.str a1)) :: u2 ((dB false) :: (.ptr 0 0) :: (.ptr 1 0) :: (.ptr 2 0) :: (dP e44 v4.1) :: (.ptr 3 0) :: (dB v1) :: (dB (!v1)) :: (.v (.tuple [(.agg [(eGz v2.1.fRoot)]), (.agg [(vI v2.2.fCode), (vI v2.2.fIndex)])])) :: (dP e39 a0) :: (.v (.tuple [(.agg [(eGz v2.1.fRoot)]), (.agg [(vI v2.2.fCode), (vI v2.2.fIndex)])])) :: (.v (.agg [(eGz v2.1.fRoot)])) :: (.v (.agg [(vI v2.2.fCode), (vI v2.2.fIndex)])) :: (dP e39 a0) :: (.v (.agg [(vI v3.fCode), (vI v3.fIndex)])) :: (.v (.agg [(vI v3.fCode), (vI v3.fIndex)])) :: (.v (.agg [(vI 0), (vI 0)])) :: (dB (!((v3.fCode == 0) && ((v3.fIndex == 0) && true)))) :: u3 ((.v (.tuple [(vP e44 v4.1), (.agg [(vI v4.2.fCode), (vI v4.2.fIndex)])])) :: (.v (.agg [(eGz v2.1.fRoot)])) :: (.v (.str a1)) :: (.v (.tuple [(vP e44 v4.1), (.agg [(vI v4.2.fCode), (vI v4.2.fIndex)])])) :: (dP e44 v4.1) :: (.v (.agg [(vI v4.2.fCode), (vI v4.2.fIndex)])) :: (.v (.str a1)) :: (dB v5) :: (dB (!v5)) :: (.v (.agg [(vI v2.2.fCode), (vI v2.2.fIndex)])) :: (.v (.agg [(vI 0), (vI 0)])) :: (dB v11) :: (dB v11) :: d8 :: d9 :: d10 :: (dB v12) :: u20 [])), [(.cells [(.v (eGz v2.1.fRoot))]), (.cells [(dI v2.2.fCode), (dI v2.2.fIndex)]), (.cells [(dI v3.fCode), (dI v3.fIndex)]), (.cells [(dI v4.2.fCode), (dI v4.2.fIndex)])]⟩ ((seqQ (X3 n) (cR (cL (cR (cL (cR (cR (cR (cR (cR C3))))))))) (sqQ (X3 n) [0, 1, 4, 6, 8, 9] 4 (seqQ (X3 n) (cR (cR (cR (cR (cR (cR C3)))))) (fnQ (X3 n).E.T (resOf Proofs.Tryd.prog 3) (eB o))))) .normal) := by
          intro d8 d9 d10 v11 v12 h
          unfold f3_r2 at h
          refine Ops.seg' 1 9 (by kernel_rfl) ?_
          have J3j21 : ∀ (d16 d17 d18 : D) (v19 : Bool) (v20 : Bool), f3_r1 m v20 = some o → Ops (X3 n) (opl (cL (cL (cR (cL (cR (cR (cR (cR (cR C3)))))))))) 13 ⟨(dP e39 a0) :: (.v (.str a1)) :: u2 ((dB false) :: (.ptr 0 0) :: (.ptr 1 0) :: (.ptr 2 0) :: (dP e44 v4.1) :: (.ptr 3 0) :: (dB v1) :: (dB (!v1)) :: (.v (.tuple [(.agg [(eGz v2.1.fRoot)]), (.agg [(vI v2.2.fCode), (vI v2.2.fIndex)])])) :: (dP e39 a0) :: (.v (.tuple [(.agg [(eGz v2.1.fRoot)]), (.agg [(vI v2.2.fCode), (vI v2.2.fIndex)])])) :: (.v (.agg [(eGz v2.1.fRoot)])) :: (.v (.agg [(vI v2.2.fCode), (vI v2.2.fIndex)])) :: (dP e39 a0) :: (.v (.agg [(vI v3.fCode), (vI v3.fIndex)])) :: (.v (.agg [(vI v3.fCode), (vI v3.fIndex)])) :: (.v (.agg [(vI 0), (vI 0)])) :: (dB (!((v3.fCode == 0) && ((v3.fIndex == 0) && true)))) :: u3 ((.v (.tuple [(vP e44 v4.1), (.agg [(vI v4.2.fCode), (vI v4.2.fIndex)])])) :: (.v (.agg [(eGz v2.1.fRoot)])) :: (.v (.str a1)) :: (.v (.tuple [(vP e44 v4.1), (.agg [(vI v4.2.fCode), (vI v4.2.fIndex)])])) :: (dP e44 v4.1) :: (.v (.agg [(vI v4.2.fCode), (vI v4.2.fIndex)])) :: (.v (.str a1)) :: (dB v5) :: (dB (!v5)) :: (.v (.agg [(vI v2.2.fCode), (vI v2.2.fIndex)])) :: (.v (.agg [(vI 0), (vI 0)])) :: (dB v11) :: (dB v11) :: d8 :: d9 :: d10 :: (dB v19) :: (dB v19) :: d16 :: d17 :: d18 :: (dB v20) :: u15 [])), [(.cells [(.v (eGz v2.1.fRoot))]), (.cells [(dI v2.2.fCode), (dI v2.2.fIndex)]), (.cells [(dI v3.fCode), (dI v3.fIndex)]), (.cells [(dI v4.2.fCode), (dI v4.2.fIndex)])]⟩ ((seqQ (X3 n) (cR (cL (cR (cL (cR (cR (cR (cR (cR C3))))))))) (sqQ (X3 n) [0, 1, 4, 6, 8, 9] 4 (seqQ (X3 n) (cR (cR (cR (cR (cR (cR C3)))))) (fnQ (X3 n).E.T (resOf Proofs.Tryd.prog 3) (eB o))))) .normal) := by
            intro d16 d17 d18 v19 v20 h
            unfold f3_r1 at h
            refine Ops.seg' 1 14 (by kernel_rfl) ?_
            refine Ops.done (by kernel_rfl) ?_
            refine seqQ.n ?_
            refine Wp.ret (by kernel_rfl) ?_
            refine sqQ.r ?_
            refine seqQ.r ?_
            exact fnQ.r' (X3 n) (fun z => (eB z)) h (RetOk.mk' (dB v20) (by kernel_rfl) (by kernel_rfl))
          have G3g15 : ∀ v14 : Bool, f3_r1 m ((v14 && (((v4.1.length : Int)) == 0))) = some o → Ops (X3 n) (opl (cL (cL (cR (cL (cR (cR (cR (cR (cR C3)))))))))) 9 ⟨(dP e39 a0) :: (.v (.str a1)) :: u2 ((dB false) :: (.ptr 0 0) :: (.ptr 1 0) :: (.ptr 2 0) :: (dP e44 v4.1) :: (.ptr 3 0) :: (dB v1) :: (dB (!v1)) :: (.v (.tuple [(.agg [(eGz v2.1.fRoot)]), (.agg [(vI v2.2.fCode), (vI v2.2.fIndex)])])) :: (dP e39 a0) :: (.v (.tuple [(.agg [(eGz v2.1.fRoot)]), (.agg [(vI v2.2.fCode), (vI v2.2.fIndex)])])) :: (.v (.agg [(eGz v2.1.fRoot)])) :: (.v (.agg [(vI v2.2.fCode), (vI v2.2.fIndex)])) :: (dP e39 a0) :: (.v (.agg [(vI v3.fCode), (vI v3.fIndex)])) :: (.v (.agg [(vI v3.fCode), (vI v3.fIndex)])) :: (.v (.agg [(vI 0), (vI 0)])) :: (dB (!((v3.fCode == 0) && ((v3.fIndex == 0) && true)))) :: u3 ((.v (.tuple [(vP e44 v4.1), (.agg [(vI v4.2.fCode), (vI v4.2.fIndex)])])) :: (.v (.agg [(eGz v2.1.fRoot)])) :: (.v (.str a1)) :: (.v (.tuple [(vP e44 v4.1), (.agg [(vI v4.2.fCode), (vI v4.2.fIndex)])])) :: (dP e44 v4.1) :: (.v (.agg [(vI v4.2.fCode), (vI v4.2.fIndex)])) :: (.v (.str a1)) :: (dB v5) :: (dB (!v5)) :: (.v (.agg [(vI v2.2.fCode), (vI v2.2.fIndex)])) :: (.v (.agg [(vI 0), (vI 0)])) :: (dB v11) :: (dB v11) :: d8 :: d9 :: d10 :: (dB v14) :: (dB v14) :: u19 [])), [(.cells [(.v (eGz v2.1.fRoot))]), (.cells [(dI v2.2.fCode), (dI v2.2.fIndex)]), (.cells [(dI v3.fCode), (dI v3.fIndex)]), (.cells [(dI v4.2.fCode), (dI v4.2.fIndex)])]⟩ ((seqQ (X3 n) (cR (cL (cR (cL (cR (cR (cR (cR (cR C3))))))))) (sqQ (X3 n) [0, 1, 4, 6, 8, 9] 4 (seqQ (X3 n) (cR (cR (cR (cR (cR (cR C3)))))) (fnQ (X3 n).E.T (resOf Proofs.Tryd.prog 3) (eB o))))) .normal) := by
            intro v14 h
            cases v14
            · refine Ops.seg' 4 13 (by kernel_rfl) ?_
              refine Ops.st ⟨(dP e39 a0) :: (.v (.str a1)) :: u2 ((dB false) :: (.ptr 0 0) :: (.ptr 1 0) :: (.ptr 2 0) :: (dP e44 v4.1) :: (.ptr 3 0) :: (dB v1) :: (dB (!v1)) :: (.v (.tuple [(.agg [(eGz v2.1.fRoot)]), (.agg [(vI v2.2.fCode), (vI v2.2.fIndex)])])) :: (dP e39 a0) :: (.v (.tuple [(.agg [(eGz v2.1.fRoot)]), (.agg [(vI v2.2.fCode), (vI v2.2.fIndex)])])) :: (.v (.agg [(eGz v2.1.fRoot)])) :: (.v (.agg [(vI v2.2.fCode), (vI v2.2.fIndex)])) :: (dP e39 a0) :: (.v (.agg [(vI v3.fCode), (vI v3.fIndex)])) :: (.v (.agg [(vI v3.fCode), (vI v3.fIndex)])) :: (.v (.agg [(vI 0), (vI 0)])) :: (dB (!((v3.fCode == 0) && ((v3.fIndex == 0) && true)))) :: u3 ((.v (.tuple [(vP e44 v4.1), (.agg [(vI v4.2.fCode), (vI v4.2.fIndex)])])) :: (.v (.agg [(eGz v2.1.fRoot)])) :: (.v (.str a1)) :: (.v (.tuple [(vP e44 v4.1), (.agg [(vI v4.2.fCode), (vI v4.2.fIndex)])])) :: (dP e44 v4.1) :: (.v (.agg [(vI v4.2.fCode), (vI v4.2.fIndex)])) :: (.v (.str a1)) :: (dB v5) :: (dB (!v5)) :: (.v (.agg [(vI v2.2.fCode), (vI v2.2.fIndex)])) :: (.v (.agg [(vI 0), (vI 0)])) :: (dB v11) :: (dB v11) :: d8 :: d9 :: d10 :: (dB false) :: (dB false) :: u3 ((dB false) :: u15 []))), [(.cells [(.v (eGz v2.1.fRoot))]), (.cells [(dI v2.2.fCode), (dI v2.2.fIndex)]), (.cells [(dI v3.fCode), (dI v3.fIndex)]), (.cells [(dI v4.2.fCode), (dI v4.2.fIndex)])]⟩ (by kernel_rfl) ?_
              exact J3j21 _ _ _ _ _ h
            · refine Ops.seg' 1 10 (by kernel_rfl) ?_
              refine Ops.one' 11 (fun h0 e0 => (len_r (T := T) h0 32 45 .plain e44 v4.1 (by kernel_rfl))) (by kernel_rfl) (by kernel_rfl) ?_
              refine Ops.seg' 2 13 (by kernel_rfl) ?_
              refine Ops.st ⟨(dP e39 a0) :: (.v (.str a1)) :: u2 ((dB false) :: (.ptr 0 0) :: (.ptr 1 0) :: (.ptr 2 0) :: (dP e44 v4.1) :: (.ptr 3 0) :: (dB v1) :: (dB (!v1)) :: (.v (.tuple [(.agg [(eGz v2.1.fRoot)]), (.agg [(vI v2.2.fCode), (vI v2.2.fIndex)])])) :: (dP e39 a0) :: (.v (.tuple [(.agg [(eGz v2.1.fRoot)]), (.agg [(vI v2.2.fCode), (vI v2.2.fIndex)])])) :: (.v (.agg [(eGz v2.1.fRoot)])) :: (.v (.agg [(vI v2.2.fCode), (vI v2.2.fIndex)])) :: (dP e39 a0) :: (.v (.agg [(vI v3.fCode), (vI v3.fIndex)])) :: (.v (.agg [(vI v3.fCode), (vI v3.fIndex)])) :: (.v (.agg [(vI 0), (vI 0)])) :: (dB (!((v3.fCode == 0) && ((v3.fIndex == 0) && true)))) :: u3 ((.v (.tuple [(vP e44 v4.1), (.agg [(vI v4.2.fCode), (vI v4.2.fIndex)])])) :: (.v (.agg [(eGz v2.1.fRoot)])) :: (.v (.str a1)) :: (.v (.tuple [(vP e44 v4.1), (.agg [(vI v4.2.fCode), (vI v4.2.fIndex)])])) :: (dP e44 v4.1) :: (.v (.agg [(vI v4.2.fCode), (vI v4.2.fIndex)])) :: (.v (.str a1)) :: (dB v5) :: (dB (!v5)) :: (.v (.agg [(vI v2.2.fCode), (vI v2.2.fIndex)])) :: (.v (.agg [(vI 0), (vI 0)])) :: (dB v11) :: (dB v11) :: d8 :: d9 :: d10 :: (dB true) :: (dB true) :: (dP e44 v4.1) :: (dI ((v4.1.length : Int))) :: (dB (((v4.1.length : Int)) == 0)) :: (dB (((v4.1.length : Int)) == 0)) :: u15 [])), [(.cells [(.v (eGz v2.1.fRoot))]), (.cells [(dI v2.2.fCode), (dI v2.2.fIndex)]), (.cells [(dI v3.fCode), (dI v3.fIndex)]), (.cells [(dI v4.2.fCode), (dI v4.2.fIndex)])]⟩ (by kernel_rfl) ?_
              exact J3j21 _ _ _ _ _ h
          exact Ops.st ⟨(dP e39 a0) :: (.v (.str a1)) :: u2 ((dB false) :: (.ptr 0 0) :: (.ptr 1 0) :: (.ptr 2 0) :: (dP e44 v4.1) :: (.ptr 3 0) :: (dB v1) :: (dB (!v1)) :: (.v (.tuple [(.agg [(eGz v2.1.fRoot)]), (.agg [(vI v2.2.fCode), (vI v2.2.fIndex)])])) :: (dP e39 a0) :: (.v (.tuple [(.agg [(eGz v2.1.fRoot)]), (.agg [(vI v2.2.fCode), (vI v2.2.fIndex)])])) :: (.v (.agg [(eGz v2.1.fRoot)])) :: (.v (.agg [(vI v2.2.fCode), (vI v2.2.fIndex)])) :: (dP e39 a0) :: (.v (.agg [(vI v3.fCode), (vI v3.fIndex)])) :: (.v (.agg [(vI v3.fCode), (vI v3.fIndex)])) :: (.v (.agg [(vI 0), (vI 0)])) :: (dB (!((v3.fCode == 0) && ((v3.fIndex == 0) && true)))) :: u3 ((.v (.tuple [(vP e44 v4.1), (.agg [(vI v4.2.fCode), (vI v4.2.fIndex)])])) :: (.v (.agg [(eGz v2.1.fRoot)])) :: (.v (.str a1)) :: (.v (.tuple [(vP e44 v4.1), (.agg [(vI v4.2.fCode), (vI v4.2.fIndex)])])) :: (dP e44 v4.1) :: (.v (.agg [(vI v4.2.fCode), (vI v4.2.fIndex)])) :: (.v (.str a1)) :: (dB v5) :: (dB (!v5)) :: (.v (.agg [(vI v2.2.fCode), (vI v2.2.fIndex)])) :: (.v (.agg [(vI 0), (vI 0)])) :: (dB v11) :: (dB v11) :: d8 :: d9 :: d10 :: (dB v12) :: (dB v12) :: u19 [])), [(.cells [(.v (eGz v2.1.fRoot))]), (.cells [(dI v2.2.fCode), (dI v2.2.fIndex)]), (.cells [(dI v3.fCode), (dI v3.fIndex)]), (.cells [(dI v4.2.fCode), (dI v4.2.fIndex)])]⟩ (by kernel_rfl) (G3g15 v12 h)
        have G3g7 : ∀ v6 : Bool, f3_r2 m v4 ((v6 && (((v4.2.fCode == 5) && ((v4.2.fIndex == (-1)) && true))))) = some o → Ops (X3 n) (opl (cL (cL (cR (cL (cR (cR (cR (cR (cR C3)))))))))) 4 ⟨(dP e39 a0) :: (.v (.str a1)) :: u2 ((dB false) :: (.ptr 0 0) :: (.ptr 1 0) :: (.ptr 2 0) :: (dP e44 v4.1) :: (.ptr 3 0) :: (dB v1) :: (dB (!v1)) :: (.v (.tuple [(.agg [(eGz v2.1.fRoot)]), (.agg [(vI v2.2.fCode), (vI v2.2.fIndex)])])) :: (dP e39 a0) :: (.v (.tuple [(.agg [(eGz v2.1.fRoot)]), (.agg [(vI v2.2.fCode), (vI v2.2.fIndex)])])) :: (.v (.agg [(eGz v2.1.fRoot)])) :: (.v (.agg [(vI v2.2.fCode), (vI v2.2.fIndex)])) :: (dP e39 a0) :: (.v (.agg [(vI v3.fCode), (vI v3.fIndex)])) :: (.v (.agg [(vI v3.fCode), (vI v3.fIndex)])) :: (.v (.agg [(vI 0), (vI 0)])) :: (dB (!((v3.fCode == 0) && ((v3.fIndex == 0) && true)))) :: u3 ((.v (.tuple [(vP e44 v4.1), (.agg [(vI v4.2.fCode), (vI v4.2.fIndex)])])) :: (.v (.agg [(eGz v2.1.fRoot)])) :: (.v (.str a1)) :: (.v (.tuple [(vP e44 v4.1), (.agg [(vI v4.2.fCode), (vI v4.2.fIndex)])])) :: (dP e44 v4.1) :: (.v (.agg [(vI v4.2.fCode), (vI v4.2.fIndex)])) :: (.v (.str a1)) :: (dB v5) :: (dB (!v5)) :: (.v (.agg [(vI v2.2.fCode), (vI v2.2.fIndex)])) :: (.v (.agg [(vI 0), (vI 0)])) :: (dB v6) :: (dB v6) :: u24 [])), [(.cells [(.v (eGz v2.1.fRoot))]), (.cells [(dI v2.2.fCode), (dI v2.2.fIndex)]), (.cells [(dI v3.fCode), (dI v3.fIndex)]), (.cells [(dI v4.2.fCode), (dI v4.2.fIndex)])]⟩ ((seqQ (X3 n) (cR (cL (cR (cL (cR (cR (cR (cR (cR C3))))))))) (sqQ (X3 n) [0, 1, 4, 6, 8, 9] 4 (seqQ (X3 n) (cR (cR (cR (cR (cR (cR C3)))))) (fnQ (X3 n).E.T (resOf Proofs.Tryd.prog 3) (eB o))))) .normal) := by
          intro v6 h
          cases v6
          · refine Ops.seg' 4 8 (by kernel_rfl) ?_
            refine Ops.st ⟨(dP e39 a0) :: (.v (.str a1)) :: u2 ((dB false) :: (.ptr 0 0) :: (.ptr 1 0) :: (.ptr 2 0) :: (dP e44 v4.1) :: (.ptr 3 0) :: (dB v1) :: (dB (!v1)) :: (.v (.tuple [(.agg [(eGz v2.1.fRoot)]), (.agg [(vI v2.2.fCode), (vI v2.2.fIndex)])])) :: (dP e39 a0) :: (.v (.tuple [(.agg [(eGz v2.1.fRoot)]), (.agg [(vI v2.2.fCode), (vI v2.2.fIndex)])])) :: (.v (.agg [(eGz v2.1.fRoot)])) :: (.v (.agg [(vI v2.2.fCode), (vI v2.2.fIndex)])) :: (dP e39 a0) :: (.v (.agg [(vI v3.fCode), (vI v3.fIndex)])) :: (.v (.agg [(vI v3.fCode), (vI v3.fIndex)])) :: (.v (.agg [(vI 0), (vI 0)])) :: (dB (!((v3.fCode == 0) && ((v3.fIndex == 0) && true)))) :: u3 ((.v (.tuple [(vP e44 v4.1), (.agg [(vI v4.2.fCode), (vI v4.2.fIndex)])])) :: (.v (.agg [(eGz v2.1.fRoot)])) :: (.v (.str a1)) :: (.v (.tuple [(vP e44 v4.1), (.agg [(vI v4.2.fCode), (vI v4.2.fIndex)])])) :: (dP e44 v4.1) :: (.v (.agg [(vI v4.2.fCode), (vI v4.2.fIndex)])) :: (.v (.str a1)) :: (dB v5) :: (dB (!v5)) :: (.v (.agg [(vI v2.2.fCode), (vI v2.2.fIndex)])) :: (.v (.agg [(vI 0), (vI 0)])) :: (dB false) :: (dB false) :: u3 ((dB false) :: u20 []))), [(.cells [(.v (eGz v2.1.fRoot))]), (.cells [(dI v2.2.fCode), (dI v2.2.fIndex)]), (.cells [(dI v3.fCode), (dI v3.fIndex)]), (.cells [(dI v4.2.fCode), (dI v4.2.fIndex)])]⟩ (by kernel_rfl) ?_
            exact J3j13 _ _ _ _ _ h
          · refine Ops.seg' 4 8 (by kernel_rfl) ?_
            refine Ops.st ⟨(dP e39 a0) :: (.v (.str a1)) :: u2 ((dB false) :: (.ptr 0 0) :: (.ptr 1 0) :: (.ptr 2 0) :: (dP e44 v4.1) :: (.ptr 3 0) :: (dB v1) :: (dB (!v1)) :: (.v (.tuple [(.agg [(eGz v2.1.fRoot)]), (.agg [(vI v2.2.fCode), (vI v2.2.fIndex)])])) :: (dP e39 a0) :: (.v (.tuple [(.agg [(eGz v2.1.fRoot)]), (.agg [(vI v2.2.fCode), (vI v2.2.fIndex)])])) :: (.v (.agg [(eGz v2.1.fRoot)])) :: (.v (.agg [(vI v2.2.fCode), (vI v2.2.fIndex)])) :: (dP e39 a0) :: (.v (.agg [(vI v3.fCode), (vI v3.fIndex)])) :: (.v (.agg [(vI v3.fCode), (vI v3.fIndex)])) :: (.v (.agg [(vI 0), (vI 0)])) :: (dB (!((v3.fCode == 0) && ((v3.fIndex == 0) && true)))) :: u3 ((.v (.tuple [(vP e44 v4.1), (.agg [(vI v4.2.fCode), (vI v4.2.fIndex)])])) :: (.v (.agg [(eGz v2.1.fRoot)])) :: (.v (.str a1)) :: (.v (.tuple [(vP e44 v4.1), (.agg [(vI v4.2.fCode), (vI v4.2.fIndex)])])) :: (dP e44 v4.1) :: (.v (.agg [(vI v4.2.fCode), (vI v4.2.fIndex)])) :: (.v (.str a1)) :: (dB v5) :: (dB (!v5)) :: (.v (.agg [(vI v2.2.fCode), (vI v2.2.fIndex)])) :: (.v (.agg [(vI 0), (vI 0)])) :: (dB true) :: (dB true) :: (.v (.agg [(vI v4.2.fCode), (vI v4.2.fIndex)])) :: (.v (.agg [(vI 5), (vI ((-1)))])) :: (dB (((v4.2.fCode == 5) && ((v4.2.fIndex == (-1)) && true)))) :: (dB (((v4.2.fCode == 5) && ((v4.2.fIndex == (-1)) && true)))) :: u20 [])), [(.cells [(.v (eGz v2.1.fRoot))]), (.cells [(dI v2.2.fCode), (dI v2.2.fIndex)]), (.cells [(dI v3.fCode), (dI v3.fIndex)]), (.cells [(dI v4.2.fCode), (dI v4.2.fIndex)])]⟩ (by kernel_rfl) ?_
            exact J3j13 _ _ _ _ _ h
        exact Ops.st ⟨(dP e39 a0) :: (.v (.str a1)) :: u2 ((dB false) :: (.ptr 0 0) :: (.ptr 1 0) :: (.ptr 2 0) :: (dP e44 v4.1) :: (.ptr 3 0) :: (dB v1) :: (dB (!v1)) :: (.v (.tuple [(.agg [(eGz v2.1.fRoot)]), (.agg [(vI v2.2.fCode), (vI v2.2.fIndex)])])) :: (dP e39 a0) :: (.v (.tuple [(.agg [(eGz v2.1.fRoot)]), (.agg [(vI v2.2.fCode), (vI v2.2.fIndex)])])) :: (.v (.agg [(eGz v2.1.fRoot)])) :: (.v (.agg [(vI v2.2.fCode), (vI v2.2.fIndex)])) :: (dP e39 a0) :: (.v (.agg [(vI v3.fCode), (vI v3.fIndex)])) :: (.v (.agg [(vI v3.fCode), (vI v3.fIndex)])) :: (.v (.agg [(vI 0), (vI 0)])) :: (dB (!((v3.fCode == 0) && ((v3.fIndex == 0) && true)))) :: u3 ((.v (.tuple [(vP e44 v4.1), (.agg [(vI v4.2.fCode), (vI v4.2.fIndex)])])) :: (.v (.agg [(eGz v2.1.fRoot)])) :: (.v (.str a1)) :: (.v (.tuple [(vP e44 v4.1), (.agg [(vI v4.2.fCode), (vI v4.2.fIndex)])])) :: (dP e44 v4.1) :: (.v (.agg [(vI v4.2.fCode), (vI v4.2.fIndex)])) :: (.v (.str a1)) :: (dB v5) :: (dB (!v5)) :: (.v (.agg [(vI v2.2.fCode), (vI v2.2.fIndex)])) :: (.v (.agg [(vI 0), (vI 0)])) :: (dB ((((v2.2.fCode == 0) && ((v2.2.fIndex == 0) && true))))) :: (dB ((((v2.2.fCode == 0) && ((v2.2.fIndex == 0) && true))))) :: u24 [])), [(.cells [(.v (eGz v2.1.fRoot))]), (.cells [(dI v2.2.fCode), (dI v2.2.fIndex)]), (.cells [(dI v3.fCode), (dI v3.fIndex)]), (.cells [(dI v4.2.fCode), (dI v4.2.fIndex)])]⟩ (by kernel_rfl) (G3g7 (((v2.2.fCode == 0) && ((v2.2.fIndex == 0) && true))) h)
      · refine Wp.skip (by kernel_rfl) ?_
        refine sqQ.n' ?_
        refine seqQ.n ?_
        refine Wp.seq' (by kernel_rfl) ?_
        refine Wp.region (by kernel_rfl) ?_
        refine Ops.seg' 4 4 (by kernel_rfl) ?_
        have J3j29 : ∀ (d24 d25 d26 : D) (v27 : Bool) (v28 : Bool), f3_r4 m a0 a1 v4 v28 = some o → Ops (X3 n) (opl (cL (cR (cR (cR (cR (cR (cR C3)))))))) 8 ⟨(dP e39 a0) :: (.v (.str a1)) :: u2 ((dB false) :: (.ptr 0 0) :: (.ptr 1 0) :: (.ptr 2 0) :: (dP e44 v4.1) :: (.ptr 3 0) :: (dB v1) :: (dB (!v1)) :: (.v (.tuple [(.agg [(eGz v2.1.fRoot)]), (.agg [(vI v2.2.fCode), (vI v2.2.fIndex)])])) :: (dP e39 a0) :: (.v (.tuple [(.agg [(eGz v2.1.fRoot)]), (.agg [(vI v2.2.fCode), (vI v2.2.fIndex)])])) :: (.v (.agg [(eGz v2.1.fRoot)])) :: (.v (.agg [(vI v2.2.fCode), (vI v2.2.fIndex)])) :: (dP e39 a0) :: (.v (.agg [(vI v3.fCode), (vI v3.fIndex)])) :: (.v (.agg [(vI v3.fCode), (vI v3.fIndex)])) :: (.v (.agg [(vI 0), (vI 0)])) :: (dB (!((v3.fCode == 0) && ((v3.fIndex == 0) && true)))) :: u3 ((.v (.tuple [(vP e44 v4.1), (.agg [(vI v4.2.fCode), (vI v4.2.fIndex)])])) :: (.v (.agg [(eGz v2.1.fRoot)])) :: (.v (.str a1)) :: (.v (.tuple [(vP e44 v4.1), (.agg [(vI v4.2.fCode), (vI v4.2.fIndex)])])) :: (dP e44 v4.1) :: (.v (.agg [(vI v4.2.fCode), (vI v4.2.fIndex)])) :: (.v (.str a1)) :: (dB v5) :: (dB (!v5)) :: u13 ((.v (.agg [(vI v2.2.fCode), (vI v2.2.fIndex)])) :: (.v (.agg [(vI 0), (vI 0)])) :: (dB v27) :: (dB v27) :: d24 :: d25 :: d26 :: (dB v28) :: u7 []))), [(.cells [(.v (eGz v2.1.fRoot))]), (.cells [(dI v2.2.fCode), (dI v2.2.fIndex)]), (.cells [(dI v3.fCode), (dI v3.fIndex)]), (.cells [(dI v4.2.fCode), (dI v4.2.fIndex)])]⟩ ((seqQ (X3 n) (cR (cR (cR (cR (cR (cR (cR C3))))))) (fnQ (X3 n).E.T (resOf Proofs.Tryd.prog 3) (eB o))) .normal) := by
          intro d24 d25 d26 v27 v28 h
          unfold f3_r4 at h
          refine Ops.seg' 1 9 (by kernel_rfl) ?_
          have J3j39 : ∀ (d32 d33 d34 d35 d36 : D) (v37 : Bool) (v38 : Bool), f3_r3 m v38 = some o → Ops (X3 n) (opl (cL (cR (cR (cR (cR (cR (cR C3)))))))) 15 ⟨(dP e39 a0) :: (.v (.str a1)) :: u2 ((dB false) :: (.ptr 0 0) :: (.ptr 1 0) :: (.ptr 2 0) :: (dP e44 v4.1) :: (.ptr 3 0) :: (dB v1) :: (dB (!v1)) :: (.v (.tuple [(.agg [(eGz v2.1.fRoot)]), (.agg [(vI v2.2.fCode), (vI v2.2.fIndex)])])) :: (dP e39 a0) :: (.v (.tuple [(.agg [(eGz v2.1.fRoot)]), (.agg [(vI v2.2.fCode), (vI v2.2.fIndex)])])) :: (.v (.agg [(eGz v2.1.fRoot)])) :: (.v (.agg [(vI v2.2.fCode), (vI v2.2.fIndex)])) :: (dP e39 a0) :: (.v (.agg [(vI v3.fCode), (vI v3.fIndex)])) :: (.v (.agg [(vI v3.fCode), (vI v3.fIndex)])) :: (.v (.agg [(vI 0), (vI 0)])) :: (dB (!((v3.fCode == 0) && ((v3.fIndex == 0) && true)))) :: u3 ((.v (.tuple [(vP e44 v4.1), (.agg [(vI v4.2.fCode), (vI v4.2.fIndex)])])) :: (.v (.agg [(eGz v2.1.fRoot)])) :: (.v (.str a1)) :: (.v (.tuple [(vP e44 v4.1), (.agg [(vI v4.2.fCode), (vI v4.2.fIndex)])])) :: (dP e44 v4.1) :: (.v (.agg [(vI v4.2.fCode), (vI v4.2.fIndex)])) :: (.v (.str a1)) :: (dB v5) :: (dB (!v5)) :: u13 ((.v (.agg [(vI v2.2.fCode), (vI v2.2.fIndex)])) :: (.v (.agg [(vI 0), (vI 0)])) :: (dB v27) :: (dB v27) :: d24 :: d25 :: d26 :: (dB v37) :: (dB v37) :: d32 :: d33 :: d34 :: d35 :: d36 :: (dB v38) :: []))), [(.cells [(.v (eGz v2.1.fRoot))]), (.cells [(dI v2.2.fCode), (dI v2.2.fIndex)]), (.cells [(dI v3.fCode), (dI v3.fIndex)]), (.cells [(dI v4.2.fCode), (dI v4.2.fIndex)])]⟩ ((seqQ (X3 n) (cR (cR (cR (cR (cR (cR (cR C3))))))) (fnQ (X3 n).E.T (resOf Proofs.Tryd.prog 3) (eB o))) .normal) := by
            intro d32 d33 d34 d35 d36 v37 v38 h
            unfold f3_r3 at h
            refine Ops.seg' 1 16 (by kernel_rfl) ?_
            refine Ops.done (by kernel_rfl) ?_
            refine seqQ.n ?_
            refine Wp.ret (by kernel_rfl) ?_
            exact fnQ.r' (X3 n) (fun z => (eB z)) h (RetOk.mk' (dB v38) (by kernel_rfl) (by kernel_rfl))
          obtain ⟨v38, ev38, h⟩ := bnd_some h
          have G3g31 : ∀ v30 : Bool, (cnd v30 (bnd (f15 m a0 a1) fun v40 => bnd (f14 m v4.1 v40) fun v41 => some v41) (some false)) = some v38 → Ops (X3 n) (opl (cL (cR (cR (cR (cR (cR (cR C3)))))))) 9 ⟨(dP e39 a0) :: (.v (.str a1)) :: u2 ((dB false) :: (.ptr 0 0) :: (.ptr 1 0) :: (.ptr 2 0) :: (dP e44 v4.1) :: (.ptr 3 0) :: (dB v1) :: (dB (!v1)) :: (.v (.tuple [(.agg [(eGz v2.1.fRoot)]), (.agg [(vI v2.2.fCode), (vI v2.2.fIndex)])])) :: (dP e39 a0) :: (.v (.tuple [(.agg [(eGz v2.1.fRoot)]), (.agg [(vI v2.2.fCode), (vI v2.2.fIndex)])])) :: (.v (.agg [(eGz v2.1.fRoot)])) :: (.v (.agg [(vI v2.2.fCode), (vI v2.2.fIndex)])) :: (dP e39 a0) :: (.v (.agg [(vI v3.fCode), (vI v3.fIndex)])) :: (.v (.agg [(vI v3.fCode), (vI v3.fIndex)])) :: (.v (.agg [(vI 0), (vI 0)])) :: (dB (!((v3.fCode == 0) && ((v3.fIndex == 0) && true)))) :: u3 ((.v (.tuple [(vP e44 v4.1), (.agg [(vI v4.2.fCode), (vI v4.2.fIndex)])])) :: (.v (.agg [(eGz v2.1.fRoot)])) :: (.v (.str a1)) :: (.v (.tuple [(vP e44 v4.1), (.agg [(vI v4.2.fCode), (vI v4.2.fIndex)])])) :: (dP e44 v4.1) :: (.v (.agg [(vI v4.2.fCode), (vI v4.2.fIndex)])) :: (.v (.str a1)) :: (dB v5) :: (dB (!v5)) :: u13 ((.v (.agg [(vI v2.2.fCode), (vI v2.2.fIndex)])) :: (.v (.agg [(vI 0), (vI 0)])) :: (dB v27) :: (dB v27) :: d24 :: d25 :: d26 :: (dB v30) :: (dB v30) :: u6 []))), [(.cells [(.v (eGz v2.1.fRoot))]), (.cells [(dI v2.2.fCode), (dI v2.2.fIndex)]), (.cells [(dI v3.fCode), (dI v3.fIndex)]), (.cells [(dI v4.2.fCode), (dI v4.2.fIndex)])]⟩ ((seqQ (X3 n) (cR (cR (cR (cR (cR (cR (cR C3))))))) (fnQ (X3 n).E.T (resOf Proofs.Tryd.prog 3) (eB o))) .normal) := by
            intro v30 ev38
            cases v30
            · have ev38 := cnd_f ev38
              refine Ops.seg' 6 15 (by kernel_rfl) ?_
              refine Ops.st ⟨(dP e39 a0) :: (.v (.str a1)) :: u2 ((dB false) :: (.ptr 0 0) :: (.ptr 1 0) :: (.ptr 2 0) :: (dP e44 v4.1) :: (.ptr 3 0) :: (dB v1) :: (dB (!v1)) :: (.v (.tuple [(.agg [(eGz v2.1.fRoot)]), (.agg [(vI v2.2.fCode), (vI v2.2.fIndex)])])) :: (dP e39 a0) :: (.v (.tuple [(.agg [(eGz v2.1.fRoot)]), (.agg [(vI v2.2.fCode), (vI v2.2.fIndex)])])) :: (.v (.agg [(eGz v2.1.fRoot)])) :: (.v (.agg [(vI v2.2.fCode), (vI v2.2.fIndex)])) :: (dP e39 a0) :: (.v (.agg [(vI v3.fCode), (vI v3.fIndex)])) :: (.v (.agg [(vI v3.fCode), (vI v3.fIndex)])) :: (.v (.agg [(vI 0), (vI 0)])) :: (dB (!((v3.fCode == 0) && ((v3.fIndex == 0) && true)))) :: u3 ((.v (.tuple [(vP e44 v4.1), (.agg [(vI v4.2.fCode), (vI v4.2.fIndex)])])) :: (.v (.agg [(eGz v2.1.fRoot)])) :: (.v (.str a1)) :: (.v (.tuple [(vP e44 v4.1), (.agg [(vI v4.2.fCode), (vI v4.2.fIndex)])])) :: (dP e44 v4.1) :: (.v (.agg [(vI v4.2.fCode), (vI v4.2.fIndex)])) :: (.v (.str a1)) :: (dB v5) :: (dB (!v5)) :: u13 ((.v (.agg [(vI v2.2.fCode), (vI v2.2.fIndex)])) :: (.v (.agg [(vI 0), (vI 0)])) :: (dB v27) :: (dB v27) :: d24 :: d25 :: d26 :: (dB false) :: (dB false) :: u5 ((dB false) :: [])))), [(.cells [(.v (eGz v2.1.fRoot))]), (.cells [(dI v2.2.fCode), (dI v2.2.fIndex)]), (.cells [(dI v3.fCode), (dI v3.fIndex)]), (.cells [(dI v4.2.fCode), (dI v4.2.fIndex)])]⟩ (by kernel_rfl) ?_
              exact J3j39 _ _ _ _ _ _ _ (some_sub (fun v38 => f3_r3 m v38 = some o) ev38 h)
            · have ev38 := cnd_t ev38
              refine Ops.seg' 3 12 (by kernel_rfl) ?_
              obtain ⟨v40, ev40, ev38⟩ := bnd_some ev38
              refine Ops.one' 13 (fun h0 e0 => (call_ok (E' := EG) (h := h0) (by kernel_rfl) (Args.v (vP e39 a0) ((eL e39) a0) (by kernel_rfl) (Args.v (.str a1) (eS a1) (by kernel_rfl) Args.nil)) (ok15 m a0 a1 v40 ev40 n (by omega)))) (by kernel_rfl) (by kernel_rfl) ?_
              obtain ⟨v41, ev41, ev38⟩ := bnd_some ev38
              refine Ops.one' 14 (fun h0 e0 => (call_ok (E' := EG) (h := h0) (by kernel_rfl) (Args.v (vP e44 v4.1) ((eL e44) v4.1) (by kernel_rfl) (Args.v (vP e44 v40) ((eL e44) v40) (by kernel_rfl) Args.nil)) (ok14 m v4.1 v40 v41 ev41 n (by omega)))) (by kernel_rfl) (by kernel_rfl) ?_
              refine Ops.seg' 1 15 (by kernel_rfl) ?_
              refine Ops.st ⟨(dP e39 a0) :: (.v (.str a1)) :: u2 ((dB false) :: (.ptr 0 0) :: (.ptr 1 0) :: (.ptr 2 0) :: (dP e44 v4.1) :: (.ptr 3 0) :: (dB v1) :: (dB (!v1)) :: (.v (.tuple [(.agg [(eGz v2.1.fRoot)]), (.agg [(vI v2.2.fCode), (vI v2.2.fIndex)])])) :: (dP e39 a0) :: (.v (.tuple [(.agg [(eGz v2.1.fRoot)]), (.agg [(vI v2.2.fCode), (vI v2.2.fIndex)])])) :: (.v (.agg [(eGz v2.1.fRoot)])) :: (.v (.agg [(vI v2.2.fCode), (vI v2.2.fIndex)])) :: (dP e39 a0) :: (.v (.agg [(vI v3.fCode), (vI v3.fIndex)])) :: (.v (.agg [(vI v3.fCode), (vI v3.fIndex)])) :: (.v (.agg [(vI 0), (vI 0)])) :: (dB (!((v3.fCode == 0) && ((v3.fIndex == 0) && true)))) :: u3 ((.v (.tuple [(vP e44 v4.1), (.agg [(vI v4.2.fCode), (vI v4.2.fIndex)])])) :: (.v (.agg [(eGz v2.1.fRoot)])) :: (.v (.str a1)) :: (.v (.tuple [(vP e44 v4.1), (.agg [(vI v4.2.fCode), (vI v4.2.fIndex)])])) :: (dP e44 v4.1) :: (.v (.agg [(vI v4.2.fCode), (vI v4.2.fIndex)])) :: (.v (.str a1)) :: (dB v5) :: (dB (!v5)) :: u13 ((.v (.agg [(vI v2.2.fCode), (vI v2.2.fIndex)])) :: (.v (.agg [(vI 0), (vI 0)])) :: (dB v27) :: (dB v27) :: d24 :: d25 :: d26 :: (dB true) :: (dB true) :: (dP e44 v4.1) :: (dP e39 a0) :: (.v (.str a1)) :: (dP e44 v40) :: (dB v41) :: (dB v41) :: []))), [(.cells [(.v (eGz v2.1.fRoot))]), (.cells [(dI v2.2.fCode), (dI v2.2.fIndex)]), (.cells [(dI v3.fCode), (dI v3.fIndex)]), (.cells [(dI v4.2.fCode), (dI v4.2.fIndex)])]⟩ (by kernel_rfl) ?_
              exact J3j39 _ _ _ _ _ _ _ (some_sub (fun v38 => f3_r3 m v38 = some o) ev38 h)
          exact Ops.st ⟨(dP e39 a0) :: (.v (.str a1)) :: u2 ((dB false) :: (.ptr 0 0) :: (.ptr 1 0) :: (.ptr 2 0) :: (dP e44 v4.1) :: (.ptr 3 0) :: (dB v1) :: (dB (!v1)) :: (.v (.tuple [(.agg [(eGz v2.1.fRoot)]), (.agg [(vI v2.2.fCode), (vI v2.2.fIndex)])])) :: (dP e39 a0) :: (.v (.tuple [(.agg [(eGz v2.1.fRoot)]), (.agg [(vI v2.2.fCode), (vI v2.2.fIndex)])])) :: (.v (.agg [(eGz v2.1.fRoot)])) :: (.v (.agg [(vI v2.2.fCode), (vI v2.2.fIndex)])) :: (dP e39 a0) :: (.v (.agg [(vI v3.fCode), (vI v3.fIndex)])) :: (.v (.agg [(vI v3.fCode), (vI v3.fIndex)])) :: (.v (.agg [(vI 0), (vI 0)])) :: (dB (!((v3.fCode == 0) && ((v3.fIndex == 0) && true)))) :: u3 ((.v (.tuple [(vP e44 v4.1), (.agg [(vI v4.2.fCode), (vI v4.2.fIndex)])])) :: (.v (.agg [(eGz v2.1.fRoot)])) :: (.v (.str a1)) :: (.v (.tuple [(vP e44 v4.1), (.agg [(vI v4.2.fCode), (vI v4.2.fIndex)])])) :: (dP e44 v4.1) :: (.v (.agg [(vI v4.2.fCode), (vI v4.2.fIndex)])) :: (.v (.str a1)) :: (dB v5) :: (dB (!v5)) :: u13 ((.v (.agg [(vI v2.2.fCode), (vI v2.2.fIndex)])) :: (.v (.agg [(vI 0), (vI 0)])) :: (dB v27) :: (dB v27) :: d24 :: d25 :: d26 :: (dB v28) :: (dB v28) :: u6 []))), [(.cells [(.v (eGz v2.1.fRoot))]), (.cells [(dI v2.2.fCode), (dI v2.2.fIndex)]), (.cells [(dI v3.fCode), (dI v3.fIndex)]), (.cells [(dI v4.2.fCode), (dI v4.2.fIndex)])]⟩ (by kernel_rfl) (G3g31 v28 ev38)
        have G3g23 : ∀ v22 : Bool, f3_r4 m a0 a1 v4 ((v22 && (((v4.2.fCode == 0) && ((v4.2.fIndex == 0) && true))))) = some o → Ops (X3 n) (opl (cL (cR (cR (cR (cR (cR (cR C3)))))))) 4 ⟨(dP e39 a0) :: (.v (.str a1)) :: u2 ((dB false) :: (.ptr 0 0) :: (.ptr 1 0) :: (.ptr 2 0) :: (dP e44 v4.1) :: (.ptr 3 0) :: (dB v1) :: (dB (!v1)) :: (.v (.tuple [(.agg [(eGz v2.1.fRoot)]), (.agg [(vI v2.2.fCode), (vI v2.2.fIndex)])])) :: (dP e39 a0) :: (.v (.tuple [(.agg [(eGz v2.1.fRoot)]), (.agg [(vI v2.2.fCode), (vI v2.2.fIndex)])])) :: (.v (.agg [(eGz v2.1.fRoot)])) :: (.v (.agg [(vI v2.2.fCode), (vI v2.2.fIndex)])) :: (dP e39 a0) :: (.v (.agg [(vI v3.fCode), (vI v3.fIndex)])) :: (.v (.agg [(vI v3.fCode), (vI v3.fIndex)])) :: (.v (.agg [(vI 0), (vI 0)])) :: (dB (!((v3.fCode == 0) && ((v3.fIndex == 0) && true)))) :: u3 ((.v (.tuple [(vP e44 v4.1), (.agg [(vI v4.2.fCode), (vI v4.2.fIndex)])])) :: (.v (.agg [(eGz v2.1.fRoot)])) :: (.v (.str a1)) :: (.v (.tuple [(vP e44 v4.1), (.agg [(vI v4.2.fCode), (vI v4.2.fIndex)])])) :: (dP e44 v4.1) :: (.v (.agg [(vI v4.2.fCode), (vI v4.2.fIndex)])) :: (.v (.str a1)) :: (dB v5) :: (dB (!v5)) :: u13 ((.v (.agg [(vI v2.2.fCode), (vI v2.2.fIndex)])) :: (.v (.agg [(vI 0), (vI 0)])) :: (dB v22) :: (dB v22) :: u11 []))), [(.cells [(.v (eGz v2.1.fRoot))]), (.cells [(dI v2.2.fCode), (dI v2.2.fIndex)]), (.cells [(dI v3.fCode), (dI v3.fIndex)]), (.cells [(dI v4.2.fCode), (dI v4.2.fIndex)])]⟩ ((seqQ (X3 n) (cR (cR (cR (cR (cR (cR (cR C3))))))) (fnQ (X3 n).E.T (resOf Proofs.Tryd.prog 3) (eB o))) .normal) := by
          intro v22 h
          cases v22
          · refine Ops.seg' 4 8 (by kernel_rfl) ?_
            refine Ops.st ⟨(dP e39 a0) :: (.v (.str a1)) :: u2 ((dB false) :: (.ptr 0 0) :: (.ptr 1 0) :: (.ptr 2 0) :: (dP e44 v4.1) :: (.ptr 3 0) :: (dB v1) :: (dB (!v1)) :: (.v (.tuple [(.agg [(eGz v2.1.fRoot)]), (.agg [(vI v2.2.fCode), (vI v2.2.fIndex)])])) :: (dP e39 a0) :: (.v (.tuple [(.agg [(eGz v2.1.fRoot)]), (.agg [(vI v2.2.fCode), (vI v2.2.fIndex)])])) :: (.v (.agg [(eGz v2.1.fRoot)])) :: (.v (.agg [(vI v2.2.fCode), (vI v2.2.fIndex)])) :: (dP e39 a0) :: (.v (.agg [(vI v3.fCode), (vI v3.fIndex)])) :: (.v (.agg [(vI v3.fCode), (vI v3.fIndex)])) :: (.v (.agg [(vI 0), (vI 0)])) :: (dB (!((v3.fCode == 0) && ((v3.fIndex == 0) && true)))) :: u3 ((.v (.tuple [(vP e44 v4.1), (.agg [(vI v4.2.fCode), (vI v4.2.fIndex)])])) :: (.v (.agg [(eGz v2.1.fRoot)])) :: (.v (.str a1)) :: (.v (.tuple [(vP e44 v4.1), (.agg [(vI v4.2.fCode), (vI v4.2.fIndex)])])) :: (dP e44 v4.1) :: (.v (.agg [(vI v4.2.fCode), (vI v4.2.fIndex)])) :: (.v (.str a1)) :: (dB v5) :: (dB (!v5)) :: u13 ((.v (.agg [(vI v2.2.fCode), (vI v2.2.fIndex)])) :: (.v (.agg [(vI 0), (vI 0)])) :: (dB false) :: (dB false) :: u3 ((dB false) :: u7 [])))), [(.cells [(.v (eGz v2.1.fRoot))]), (.cells [(dI v2.2.fCode), (dI v2.2.fIndex)]), (.cells [(dI v3.fCode), (dI v3.fIndex)]), (.cells [(dI v4.2.fCode), (dI v4.2.fIndex)])]⟩ (by kernel_rfl) ?_
            exact J3j29 _ _ _ _ _ h
          · refine Ops.seg' 4 8 (by kernel_rfl) ?_
            refine Ops.st ⟨(dP e39 a0) :: (.v (.str a1)) :: u2 ((dB false) :: (.ptr 0 0) :: (.ptr 1 0) :: (.ptr 2 0) :: (dP e44 v4.1) :: (.ptr 3 0) :: (dB v1) :: (dB (!v1)) :: (.v (.tuple [(.agg [(eGz v2.1.fRoot)]), (.agg [(vI v2.2.fCode), (vI v2.2.fIndex)])])) :: (dP e39 a0) :: (.v (.tuple [(.agg [(eGz v2.1.fRoot)]), (.agg [(vI v2.2.fCode), (vI v2.2.fIndex)])])) :: (.v (.agg [(eGz v2.1.fRoot)])) :: (.v (.agg [(vI v2.2.fCode), (vI v2.2.fIndex)])) :: (dP e39 a0) :: (.v (.agg [(vI v3.fCode), (vI v3.fIndex)])) :: (.v (.agg [(vI v3.fCode), (vI v3.fIndex)])) :: (.v (.agg [(vI 0), (vI 0)])) :: (dB (!((v3.fCode == 0) && ((v3.fIndex == 0) && true)))) :: u3 ((.v (.tuple [(vP e44 v4.1), (.agg [(vI v4.2.fCode), (vI v4.2.fIndex)])])) :: (.v (.agg [(eGz v2.1.fRoot)])) :: (.v (.str a1)) :: (.v (.tuple [(vP e44 v4.1), (.agg [(vI v4.2.fCode), (vI v4.2.fIndex)])])) :: (dP e44 v4.1) :: (.v (.agg [(vI v4.2.fCode), (vI v4.2.fIndex)])) :: (.v (.str a1)) :: (dB v5) :: (dB (!v5)) :: u13 ((.v (.agg [(vI v2.2.fCode), (vI v2.2.fIndex)])) :: (.v (.agg [(vI 0), (vI 0)])) :: (dB true) :: (dB true) :: (.v (.agg [(vI v4.2.fCode), (vI v4.2.fIndex)])) :: (.v (.agg [(vI 0), (vI 0)])) :: (dB (((v4.2.fCode == 0) && ((v4.2.fIndex == 0) && true)))) :: (dB (((v4.2.fCode == 0) && ((v4.2.fIndex == 0) && true)))) :: u7 []))), [(.cells [(.v (eGz v2.1.fRoot))]), (.cells [(dI v2.2.fCode), (dI v2.2.fIndex)]), (.cells [(dI v3.fCode), (dI v3.fIndex)]), (.cells [(dI v4.2.fCode), (dI v4.2.fIndex)])]⟩ (by kernel_rfl) ?_
            exact J3j29 _ _ _ _ _ h
        exact Ops.st ⟨(dP e39 a0) :: (.v (.str a1)) :: u2 ((dB false) :: (.ptr 0 0) :: (.ptr 1 0) :: (.ptr 2 0) :: (dP e44 v4.1) :: (.ptr 3 0) :: (dB v1) :: (dB (!v1)) :: (.v (.tuple [(.agg [(eGz v2.1.fRoot)]), (.agg [(vI v2.2.fCode), (vI v2.2.fIndex)])])) :: (dP e39 a0) :: (.v (.tuple [(.agg [(eGz v2.1.fRoot)]), (.agg [(vI v2.2.fCode), (vI v2.2.fIndex)])])) :: (.v (.agg [(eGz v2.1.fRoot)])) :: (.v (.agg [(vI v2.2.fCode), (vI v2.2.fIndex)])) :: (dP e39 a0) :: (.v (.agg [(vI v3.fCode), (vI v3.fIndex)])) :: (.v (.agg [(vI v3.fCode), (vI v3.fIndex)])) :: (.v (.agg [(vI 0), (vI 0)])) :: (dB (!((v3.fCode == 0) && ((v3.fIndex == 0) && true)))) :: u3 ((.v (.tuple [(vP e44 v4.1), (.agg [(vI v4.2.fCode), (vI v4.2.fIndex)])])) :: (.v (.agg [(eGz v2.1.fRoot)])) :: (.v (.str a1)) :: (.v (.tuple [(vP e44 v4.1), (.agg [(vI v4.2.fCode), (vI v4.2.fIndex)])])) :: (dP e44 v4.1) :: (.v (.agg [(vI v4.2.fCode), (vI v4.2.fIndex)])) :: (.v (.str a1)) :: (dB v5) :: (dB (!v5)) :: u13 ((.v (.agg [(vI v2.2.fCode), (vI v2.2.fIndex)])) :: (.v (.agg [(vI 0), (vI 0)])) :: (dB ((((v2.2.fCode == 0) && ((v2.2.fIndex == 0) && true))))) :: (dB ((((v2.2.fCode == 0) && ((v2.2.fIndex == 0) && true))))) :: u11 []))), [(.cells [(.v (eGz v2.1.fRoot))]), (.cells [(dI v2.2.fCode), (dI v2.2.fIndex)]), (.cells [(dI v3.fCode), (dI v3.fIndex)]), (.cells [(dI v4.2.fCode), (dI v4.2.fIndex)])]⟩ (by kernel_rfl) (G3g23 (((v2.2.fCode == 0) && ((v2.2.fIndex == 0) && true))) h)

end Go.Abs
