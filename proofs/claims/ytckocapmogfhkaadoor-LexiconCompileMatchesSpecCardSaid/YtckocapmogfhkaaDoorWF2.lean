import Derived.Test.YtckocapmogfhkaaDoorCE
namespace Go.Abs
set_option linter.unusedVariables false
set_option maxRecDepth 100000
set_option maxHeartbeats 4000000
def f11 (m : Nat) (a0 : Int) (a1 : Int) : Option S29 :=
 some ((⟨a0, a1⟩ : S29))
noncomputable abbrev X11 (n : Nat) : Cx := cxOf Proofs.Tryd.prog EG 11 n
theorem ok11 (m : Nat) (a0 : Int) (a1 : Int) (o : S29) (h : f11 m a0 a1 = some o) (n : Nat) (hn : m + 1 ≤ n) : Fn Proofs.Tryd.prog EG n 11 [.v (eI a0), .v (eI a1)] (e29 o) := by
 obtain ⟨n, rfl⟩ : ∃ q, n = q + 1 := ⟨n - 1, by omega⟩
 unfold f11 at h
 refine Fn.of (by kernel_rfl) (by kernel_rfl) (by kernel_rfl) ⟨(dI a0) :: (dI a1) :: u6 [], []⟩ (by kernel_rfl) ?_
 refine Wp.sq ?_
 refine Wp.rg ?_
 refine Ops.sg 1 1 ?_
 refine Ops.dn ?_
 refine seqQ.n ?_
 refine Wp.sq ?_
 refine Wp.rg ?_
 refine Ops.sg 4 4 ?_
 refine Ops.dn ?_
 refine seqQ.n ?_
 refine Wp.ret (by kernel_rfl) ?_
 exact fnQ.r' (X11 n) (fun z => (e29 z)) h (RetOk.mk' (.v (.agg [(vI a0), (vI a1)])) (by kernel_rfl) (by kernel_rfl))
def f38_r1 (m : Nat) (v88 : Int) (v127 : Bool) : Option (Stp Bool (Int)) :=
 cnd v127
 (some (.ret false))
 (some (.nxt (w64 (v88 + 1))))
def f38_r2 (m : Nat) (v88 : Int) (v98 : Int) (v104 : Bool) : Option (Stp Bool (Int)) :=
 f38_r1 m v88 ((!v104) && ((v88 == 0) || ((v98 != 95) && ((v98 != 45) && ((decide (v98 < 48)) || (decide (v98 > 57)))))))
def f38_B3 (m : Nat) (a0 : ByteArray) (v88 : Int) : Option (Stp Bool (Int)) :=
 cnd (decide (v88 < (a0.size : Int)))
 (bnd (sidx a0 v88) fun v98 =>
 f38_r2 m v88 v98 ((decide (v98 ≥ 97)) && (decide (v98 ≤ 122))))
 (some (.brk v88))
def f38_r4 (m : Nat) (a0 : ByteArray) (v7 : Bool) : Option Bool :=
 cnd v7
 (some false)
 (brk (iter (fun (y : Int) => f38_B3 m a0 y) m 0) some fun y138 =>
 some true)
def f38 (m : Nat) (a0 : ByteArray) : Option Bool :=
 f38_r4 m a0 ((decide ((a0.size : Int) < 1)) || (decide ((a0.size : Int) > 30)))
noncomputable abbrev X38 (n : Nat) : Cx := cxOf Proofs.Tryd.prog EG 38 n
noncomputable def C38 : Code := bodyOf Proofs.Tryd.prog 38
theorem ok38 (m : Nat) (a0 : ByteArray) (o : Bool) (h : f38 m a0 = some o) (n : Nat) (hn : m + 1 ≤ n) : Fn Proofs.Tryd.prog EG n 38 [.v (eS a0)] (eB o) := by
 obtain ⟨n, rfl⟩ : ∃ q, n = q + 1 := ⟨n - 1, by omega⟩
 unfold f38 at h
 refine Fn.of (by kernel_rfl) (by kernel_rfl) (by kernel_rfl) ⟨(.v (.str a0)) :: u40 (u10 []), []⟩ (by kernel_rfl) ?_
 refine Wp.sq ?_
 refine Wp.rg ?_
 refine Ops.sg 1 1 ?_
 refine Ops.dn ?_
 refine seqQ.n ?_
 refine Wp.sq ?_
 refine Wp.sq ?_
 refine Wp.rg ?_
 refine Ops.sg 4 4 ?_
 refine Ops.hv (fun KQ => ∀ (d3 d4 d5 : D) (v6 : Bool) (v7 : Bool), f38_r4 m a0 v7 = some o → KQ 8 ⟨(.v (.str a0)) :: u1 ((dB false) :: u3 ((.v (.str a0)) :: (dI (a0.size : Int)) :: (dB v6) :: (dB v6) :: d3 :: d4 :: d5 :: (dB v7) :: u37 [])), []⟩) ?_ fun J38j8 => ?_
 ·intro d3 d4 d5 v6 v7 h
  unfold f38_r4 at h
  refine Ops.dn ?_
  refine seqQ.n ?_
  refine Wp.cnd h [0, 2] 0 (by kernel_rfl) (fun h => ?_) (fun h => ?_)
  ·refine Wp.sq ?_
   refine Wp.rg ?_
   refine Ops.sg 1 1 ?_
   refine Ops.dn ?_
   refine seqQ.n ?_
   refine Wp.ret (by kernel_rfl) ?_
   refine sqQ.r ?_
   refine seqQ.r ?_
   exact fnQ.r' (X38 n) (fun z => (eB z)) h (RetOk.mk' (dB false) (by kernel_rfl) (by kernel_rfl))
  ·refine Wp.sk ?_
   refine sqQ.n' ?_
   refine seqQ.n ?_
   refine Wp.sq ?_
   refine Wp.sq ?_
   refine Wp.rg ?_
   refine Ops.sg 3 3 ?_
   refine Ops.dn ?_
   refine seqQ.n ?_
   refine Wp.block' 0 [2] 0 (by kernel_rfl) ?_
   have hLx137 : ∀ (kx90 : Nat) (v88 : Int)  (ox89 : Bool ⊕ (Int)), iter (fun (y : Int) => f38_B3 m a0 y) kx90 v88 = some ox89 → ∀ nx91, kx90 ≤ nx91 → (∀ r, ox89 = .inl r → ∀ σ, RetOk (X38 n) (resOf Proofs.Tryd.prog 38) (eB r) σ → (seqQ (X38 n) (cR (cR (cR C38))) (fnQ (X38 n).E.T (resOf Proofs.Tryd.prog 38) (eB o))) .ret σ) → (∀ (y : Int) , ox89 = .inr y → (seqQ (X38 n) (cR (cR (cR C38))) (fnQ (X38 n).E.T (resOf Proofs.Tryd.prog 38) (eB o))) .normal ⟨(.v (.str a0)) :: q1 ((dB false) :: q12 ((dI (a0.size : Int)) :: (dI y) :: q34 [])), []⟩) → Lp (X38 n) [0, 2, 15, 16] 0 (cL (cL (cR (cL (cR (cR C38)))))) nx91 ⟨(.v (.str a0)) :: q1 ((dB false) :: q12 ((dI (a0.size : Int)) :: (dI v88) :: q34 [])), []⟩ (blkQ (X38 n) 0 [2] 0 (seqQ (X38 n) (cR (cR (cR C38))) (fnQ (X38 n).E.T (resOf Proofs.Tryd.prog 38) (eB o)))) := by
    intro kx90
    induction kx90 with
    | zero => intro v88  ox89 h; exact (iter_zero h).elim
    | succ kx90 ihx92 =>
     intro v88  ox89 h nx91 hnx95 hrx93 hxx94
     obtain ⟨nx91, rfl⟩ : ∃ q, nx91 = q + 1 := ⟨nx91 - 1, by omega⟩
     obtain ⟨sx96, h, hsx97⟩ := iter_some h
     have h : f38_B3 m a0 v88 = some sx96 := h
     unfold f38_B3 at h
     refine Lp.succ ?_
     refine Wp.sq ?_
     refine Wp.rg ?_
     refine Ops.sg 1 1 ?_
     refine Ops.dn ?_
     refine seqQ.n ?_
     refine Wp.sq ?_
     refine Wp.cnd h [0, 2, 15, 16] 0 (by kernel_rfl) (fun h => ?_) (fun h => ?_)
     ·refine Wp.sk ?_
      refine sqQ.n' ?_
      refine seqQ.n ?_
      refine Wp.sq ?_
      refine Wp.block' 1 [0, 2, 15, 16] 0 (by kernel_rfl) ?_
      refine Wp.sq ?_
      refine Wp.rg ?_
      refine Ops.sg 2 2 ?_
      refine Ops.dn ?_
      refine seqQ.n ?_
      refine Wp.sq ?_
      refine Wp.rg ?_
      refine Ops.sg 2 2 ?_
      obtain ⟨v98, ev98, h⟩ := bnd_some h
      refine Ops.on 3 (fun h0 e0 => (str_ix (T := T) h0 9 a0 v88 v98 ev98 (by kernel_rfl))) ?_
      refine Ops.sg 1 4 ?_
      refine Ops.dn ?_
      refine seqQ.n ?_
      refine Wp.sq ?_
      refine Wp.rg ?_
      refine Ops.sg 3 3 ?_
      refine Ops.hv (fun KQ => ∀ (d101 d102 : D) (v103 : Bool) (v104 : Bool), f38_r2 m v88 v98 v104 = some sx96 → KQ 6 ⟨(.v (.str a0)) :: q1 ((dB false) :: (dI v88) :: (.v (.int .u8 v98)) :: q10 ((dI (a0.size : Int)) :: (dI v88) :: (dB (decide (v88 < (a0.size : Int)))) :: (dI v88) :: (.v (.str a0)) :: (dI v88) :: (.v (.int .u8 v98)) :: (.v (.int .u8 v98)) :: (dB v103) :: (dB v103) :: d101 :: d102 :: (dB v104) :: q23 [])), []⟩) ?_ fun J38j105 => ?_
      ·intro d101 d102 v103 v104 h
       unfold f38_r2 at h
       refine Ops.sg 1 7 ?_
       refine Ops.dn ?_
       refine seqQ.n ?_
       refine Wp.sq ?_
       refine Wp.rg ?_
       refine Ops.sg 3 3 ?_
       refine Ops.hv (fun KQ => ∀ (d108 d109 d110 d111 d112 d113 d114 d115 d116 d117 d118 d119 d120 d121 d122 d123 d124 d125 : D) (v126 : Bool) (v127 : Bool), f38_r1 m v88 v127 = some sx96 → KQ 22 ⟨(.v (.str a0)) :: q1 ((dB false) :: (dI v88) :: (.v (.int .u8 v98)) :: (dB v104) :: q9 ((dI (a0.size : Int)) :: (dI v88) :: (dB (decide (v88 < (a0.size : Int)))) :: (dI v88) :: (.v (.str a0)) :: (dI v88) :: (.v (.int .u8 v98)) :: (.v (.int .u8 v98)) :: (dB v103) :: (dB v103) :: d101 :: d102 :: (dB v104) :: (dB v104) :: (dB v126) :: (dB v126) :: d108 :: d109 :: d110 :: d111 :: d112 :: d113 :: d114 :: d115 :: d116 :: d117 :: d118 :: d119 :: d120 :: d121 :: d122 :: d123 :: d124 :: d125 :: (dB v127) :: q1 [])), []⟩) ?_ fun J38j128 => ?_
       ·intro d108 d109 d110 d111 d112 d113 d114 d115 d116 d117 d118 d119 d120 d121 d122 d123 d124 d125 v126 v127 h
        unfold f38_r1 at h
        refine Ops.dn ?_
        refine seqQ.n ?_
        refine Wp.cnd h [0, 2, 15, 16] 0 (by kernel_rfl) (fun h => ?_) (fun h => ?_)
        ·refine Wp.sq ?_
         refine Wp.rg ?_
         refine Ops.sg 1 1 ?_
         refine Ops.dn ?_
         refine seqQ.n ?_
         refine Wp.ret (by kernel_rfl) ?_
         refine sqQ.r ?_
         refine blkQ.r ?_
         refine seqQ.r ?_
         cases h
         refine lpQ.r ?_
         refine blkQ.r ?_
         exact hrx93 _ hsx97 _ (RetOk.forget [0, 2, 15, 16] (by kernel_rfl) (RetOk.mk' (dB false) (by kernel_rfl) (by kernel_rfl)))
        ·refine Wp.sk ?_
         refine sqQ.n' ?_
         refine blkQ.n' ?_
         refine seqQ.n ?_
         refine Wp.rg ?_
         refine Ops.sg 2 2 ?_
         refine Ops.dn ?_
         refine lpQ.n ⟨(.v (.str a0)) :: q1 ((dB false) :: q12 ((dI (a0.size : Int)) :: (dI (w64 (v88 + 1))) :: q34 [])), []⟩ (by kernel_rfl) ?_
         cases h
         exact ihx92 (w64 (v88 + 1))  _ hsx97 _ (by omega) hrx93 hxx94
       refine Ops.hv (fun KQ => ∀ v106 : Bool, f38_r1 m v88 (v106 && ((v88 == 0) || ((v98 != 95) && ((v98 != 45) && ((decide (v98 < 48)) || (decide (v98 > 57))))))) = some sx96 → KQ 3 ⟨(.v (.str a0)) :: q1 ((dB false) :: (dI v88) :: (.v (.int .u8 v98)) :: (dB v104) :: q9 ((dI (a0.size : Int)) :: (dI v88) :: (dB (decide (v88 < (a0.size : Int)))) :: (dI v88) :: (.v (.str a0)) :: (dI v88) :: (.v (.int .u8 v98)) :: (.v (.int .u8 v98)) :: (dB v103) :: (dB v103) :: d101 :: d102 :: (dB v104) :: (dB v104) :: (dB v106) :: (dB v106) :: q20 [])), []⟩) ?_ fun G38g107 => Ops.st _ (by kernel_rfl) (G38g107 (!v104) h)
       intro v106 h
       cases v106
       ·refine Ops.sg 19 22 ?_
        exact Ops.st _ (by kernel_rfl) (J38j128 U U U U U U U U U U U U U U U U U U false false h)
       ·refine Ops.sg 3 6 ?_
        refine Ops.hv (fun KQ => ∀ v129 : Bool, (f38_r1 m v88 (true && (v129 || ((v98 != 95) && ((v98 != 45) && ((decide (v98 < 48)) || (decide (v98 > 57)))))))) = some sx96 → KQ 6 ⟨(.v (.str a0)) :: q1 ((dB false) :: (dI v88) :: (.v (.int .u8 v98)) :: (dB v104) :: q9 ((dI (a0.size : Int)) :: (dI v88) :: (dB (decide (v88 < (a0.size : Int)))) :: (dI v88) :: (.v (.str a0)) :: (dI v88) :: (.v (.int .u8 v98)) :: (.v (.int .u8 v98)) :: (dB v103) :: (dB v103) :: d101 :: d102 :: (dB v104) :: (dB v104) :: (dB true) :: (dB true) :: (dI v88) :: (dB v129) :: (dB v129) :: q17 [])), []⟩) ?_ fun G38g130 => Ops.st _ (by kernel_rfl) (G38g130 (v88 == 0) h)
        intro v129 h
        cases v129
        ·refine Ops.sg 3 9 ?_
         refine Ops.hv (fun KQ => ∀ v131 : Bool, (f38_r1 m v88 (true && (false || (v131 && ((v98 != 45) && ((decide (v98 < 48)) || (decide (v98 > 57)))))))) = some sx96 → KQ 9 ⟨(.v (.str a0)) :: q1 ((dB false) :: (dI v88) :: (.v (.int .u8 v98)) :: (dB v104) :: q9 ((dI (a0.size : Int)) :: (dI v88) :: (dB (decide (v88 < (a0.size : Int)))) :: (dI v88) :: (.v (.str a0)) :: (dI v88) :: (.v (.int .u8 v98)) :: (.v (.int .u8 v98)) :: (dB v103) :: (dB v103) :: d101 :: d102 :: (dB v104) :: (dB v104) :: (dB true) :: (dB true) :: (dI v88) :: (dB false) :: (dB false) :: (.v (.int .u8 v98)) :: (dB v131) :: (dB v131) :: q14 [])), []⟩) ?_ fun G38g132 => Ops.st _ (by kernel_rfl) (G38g132 (v98 != 95) h)
         intro v131 h
         cases v131
         ·refine Ops.sg 13 22 ?_
          exact Ops.st _ (by kernel_rfl) (J38j128 (dI v88) (dB false) (dB false) (.v (.int .u8 v98)) (dB false) (dB false) U U (dB false) (dB false) U U U U U U (dB false) (dB false) true false h)
         ·refine Ops.sg 4 13 ?_
          refine Ops.hv (fun KQ => ∀ v133 : Bool, (f38_r1 m v88 (true && (false || (true && (v133 && ((decide (v98 < 48)) || (decide (v98 > 57)))))))) = some sx96 → KQ 13 ⟨(.v (.str a0)) :: q1 ((dB false) :: (dI v88) :: (.v (.int .u8 v98)) :: (dB v104) :: q9 ((dI (a0.size : Int)) :: (dI v88) :: (dB (decide (v88 < (a0.size : Int)))) :: (dI v88) :: (.v (.str a0)) :: (dI v88) :: (.v (.int .u8 v98)) :: (.v (.int .u8 v98)) :: (dB v103) :: (dB v103) :: d101 :: d102 :: (dB v104) :: (dB v104) :: (dB true) :: (dB true) :: (dI v88) :: (dB false) :: (dB false) :: (.v (.int .u8 v98)) :: (dB true) :: (dB true) :: (.v (.int .u8 v98)) :: (dB v133) :: (dB v133) :: (dB v133) :: q10 [])), []⟩) ?_ fun G38g134 => Ops.st _ (by kernel_rfl) (G38g134 (v98 != 45) h)
          intro v133 h
          cases v133
          ·refine Ops.sg 9 22 ?_
           exact Ops.st _ (by kernel_rfl) (J38j128 (dI v88) (dB false) (dB false) (.v (.int .u8 v98)) (dB true) (dB true) (.v (.int .u8 v98)) (dB false) (dB false) (dB false) U U U U U U (dB false) (dB false) true false h)
          ·refine Ops.sg 3 16 ?_
           refine Ops.hv (fun KQ => ∀ v135 : Bool, (f38_r1 m v88 (true && (false || (true && (true && (v135 || (decide (v98 > 57)))))))) = some sx96 → KQ 16 ⟨(.v (.str a0)) :: q1 ((dB false) :: (dI v88) :: (.v (.int .u8 v98)) :: (dB v104) :: q9 ((dI (a0.size : Int)) :: (dI v88) :: (dB (decide (v88 < (a0.size : Int)))) :: (dI v88) :: (.v (.str a0)) :: (dI v88) :: (.v (.int .u8 v98)) :: (.v (.int .u8 v98)) :: (dB v103) :: (dB v103) :: d101 :: d102 :: (dB v104) :: (dB v104) :: (dB true) :: (dB true) :: (dI v88) :: (dB false) :: (dB false) :: (.v (.int .u8 v98)) :: (dB true) :: (dB true) :: (.v (.int .u8 v98)) :: (dB true) :: (dB true) :: (dB true) :: (.v (.int .u8 v98)) :: (dB v135) :: (dB v135) :: q7 [])), []⟩) ?_ fun G38g136 => Ops.st _ (by kernel_rfl) (G38g136 (decide (v98 < 48)) h)
           intro v135 h
           cases v135
           ·refine Ops.sg 6 22 ?_
            exact Ops.st _ (by kernel_rfl) (J38j128 (dI v88) (dB false) (dB false) (.v (.int .u8 v98)) (dB true) (dB true) (.v (.int .u8 v98)) (dB true) (dB true) (dB true) (.v (.int .u8 v98)) (dB false) (dB false) (.v (.int .u8 v98)) (dB (decide (v98 > 57))) (dB (decide (v98 > 57))) (dB (decide (v98 > 57))) (dB (decide (v98 > 57))) true (decide (v98 > 57)) h)
           ·refine Ops.sg 6 22 ?_
            exact Ops.st _ (by kernel_rfl) (J38j128 (dI v88) (dB false) (dB false) (.v (.int .u8 v98)) (dB true) (dB true) (.v (.int .u8 v98)) (dB true) (dB true) (dB true) (.v (.int .u8 v98)) (dB true) (dB true) U U (dB true) (dB true) (dB true) true true h)
        ·refine Ops.sg 16 22 ?_
         exact Ops.st _ (by kernel_rfl) (J38j128 (dI v88) (dB true) (dB true) U U U U U U U U U U U U U U (dB true) true true h)
      refine Ops.hv (fun KQ => ∀ v99 : Bool, f38_r2 m v88 v98 (v99 && (decide (v98 ≤ 122))) = some sx96 → KQ 3 ⟨(.v (.str a0)) :: q1 ((dB false) :: (dI v88) :: (.v (.int .u8 v98)) :: q10 ((dI (a0.size : Int)) :: (dI v88) :: (dB (decide (v88 < (a0.size : Int)))) :: (dI v88) :: (.v (.str a0)) :: (dI v88) :: (.v (.int .u8 v98)) :: (.v (.int .u8 v98)) :: (dB v99) :: (dB v99) :: q26 [])), []⟩) ?_ fun G38g100 => Ops.st _ (by kernel_rfl) (G38g100 (decide (v98 ≥ 97)) h)
      intro v99 h
      cases v99
      ·refine Ops.sg 3 6 ?_
       exact Ops.st _ (by kernel_rfl) (J38j105 U U false false h)
      ·refine Ops.sg 3 6 ?_
       exact Ops.st _ (by kernel_rfl) (J38j105 (.v (.int .u8 v98)) (dB (decide (v98 ≤ 122))) true (decide (v98 ≤ 122)) h)
     ·refine Wp.exit (id := 0) (by kernel_rfl) ?_
      refine sqQ.x ?_
      refine seqQ.x ?_
      cases h
      refine lpQ.x ?_
      refine blkQ.x ⟨(.v (.str a0)) :: q1 ((dB false) :: q12 ((dI (a0.size : Int)) :: (dI v88) :: q34 [])), []⟩ (by kernel_rfl) ?_
      exact hxx94 v88  hsx97
   refine Wp.loop' [0, 2, 15, 16] 0 (by kernel_rfl) ⟨(.v (.str a0)) :: q1 ((dB false) :: q12 ((dI (a0.size : Int)) :: (dI 0) :: q34 [])), []⟩ (by kernel_rfl) ?_
   rcases brk_some h with ⟨r139, er139, h⟩ | ⟨y138, ey138, h⟩
   ·refine hLx137 _ 0  _ er139 n (by omega) (fun r er σ hσ => ?_) (fun y  ey => by cases ey)
    cases er
    refine seqQ.r ?_
    exact fnQ.r' (X38 n) (fun z => (eB z)) h hσ
   ·refine hLx137 _ 0  _ ey138 n (by omega) (fun r er => by cases er) (fun y  ey => ?_)
    cases ey
    refine seqQ.n ?_
    refine Wp.sq ?_
    refine Wp.rg ?_
    refine Ops.sg 1 1 ?_
    refine Ops.dn ?_
    refine seqQ.n ?_
    refine Wp.ret (by kernel_rfl) ?_
    exact fnQ.r' (X38 n) (fun z => (eB z)) h (RetOk.mk' (dB true) (by kernel_rfl) (by kernel_rfl))
 refine Ops.hv (fun KQ => ∀ v1 : Bool, f38_r4 m a0 (v1 || (decide ((a0.size : Int) > 30))) = some o → KQ 4 ⟨(.v (.str a0)) :: u1 ((dB false) :: u3 ((.v (.str a0)) :: (dI (a0.size : Int)) :: (dB v1) :: (dB v1) :: u40 (u1 []))), []⟩) ?_ fun G38g2 => Ops.st _ (by kernel_rfl) (G38g2 (decide ((a0.size : Int) < 1)) h)
 intro v1 h
 cases v1
 ·refine Ops.sg 4 8 ?_
  exact Ops.st _ (by kernel_rfl) (J38j8 (.v (.str a0)) (dI (a0.size : Int)) (dB (decide ((a0.size : Int) > 30))) false (decide ((a0.size : Int) > 30)) h)
 ·refine Ops.sg 4 8 ?_
  exact Ops.st _ (by kernel_rfl) (J38j8 U U U true true h)
def f23 (m : Nat) (a0 : Int) (a1 : Int) : Option S29 :=
 some ((⟨a0, a1⟩ : S29))
noncomputable abbrev X23 (n : Nat) : Cx := cxOf Proofs.Tryd.prog EG 23 n
theorem ok23 (m : Nat) (a0 : Int) (a1 : Int) (o : S29) (h : f23 m a0 a1 = some o) (n : Nat) (hn : m + 1 ≤ n) : Fn Proofs.Tryd.prog EG n 23 [.v (eI a0), .v (eI a1)] (e29 o) := by
 obtain ⟨n, rfl⟩ : ∃ q, n = q + 1 := ⟨n - 1, by omega⟩
 unfold f23 at h
 refine Fn.of (by kernel_rfl) (by kernel_rfl) (by kernel_rfl) ⟨(dI a0) :: (dI a1) :: u6 [], []⟩ (by kernel_rfl) ?_
 refine Wp.sq ?_
 refine Wp.rg ?_
 refine Ops.sg 1 1 ?_
 refine Ops.dn ?_
 refine seqQ.n ?_
 refine Wp.sq ?_
 refine Wp.rg ?_
 refine Ops.sg 4 4 ?_
 refine Ops.dn ?_
 refine seqQ.n ?_
 refine Wp.ret (by kernel_rfl) ?_
 exact fnQ.r' (X23 n) (fun z => (e29 z)) h (RetOk.mk' (.v (.agg [(vI a0), (vI a1)])) (by kernel_rfl) (by kernel_rfl))
def f24 (m : Nat) (a0 : ByteArray) : Option (Int × Int) := some (((Lib.decodeGo a0).1 : Int), ((Lib.decodeGo a0).2 : Int))
theorem ok24 (m : Nat) (a0 : ByteArray) (o : (Int × Int)) (h : f24 m a0 = some o) (n : Nat) (hn : m + 1 ≤ n) : Fn Proofs.Tryd.prog EG n 24 [.v (eS a0)] (.tuple [(eK .i32) o.1, eI o.2]) := by
 obtain ⟨n, rfl⟩ : ∃ q, n = q + 1 := ⟨n - 1, by omega⟩
 refine ora_fn (xs := [eS a0]) (by kernel_rfl) (by kernel_rfl) (by kernel_rfl) (F := decodeF) ?_ rfl
 cases h
 rfl
def f9_r1 (m : Nat) (v26 : (List Int)) (v27 : Int) (v38 : (Int × Int)) (v44 : Bool) : Option (Stp ((List Int) × S29) ((List Int) × Int)) :=
 cnd v44
 (bnd (f23 m 5 v27) fun v46 =>
 some (.ret (([], v46))))
 (bnd (app 8 v26 ([w64 v38.1])) fun v47 =>
 some (.nxt (v47, w64 (v27 + v38.2))))
def f9_B2 (m : Nat) (a0 : ByteArray) (v26 : (List Int)) (v27 : Int) : Option (Stp ((List Int) × S29) ((List Int) × Int)) :=
 cnd (decide (v27 < (a0.size : Int)))
 (bnd (ssub a0 v27 (a0.size : Int)) fun v37 =>
 bnd (f24 m v37) fun v38 =>
 f9_r1 m v26 v27 v38 ((v38.1 == 65533) && (decide (v38.2 ≤ 1))))
 (some (.brk (v26, v27)))
def f9 (m : Nat) (a0 : ByteArray) : Option ((List Int) × S29) :=
 cnd (decide ((a0.size : Int) > 4000))
 (bnd (f23 m 1 (-1)) fun v1 =>
 some (([], v1)))
 (brk (iter (fun (y : (List Int) × Int) => f9_B2 m a0 y.1 y.2) m ([], 0)) some fun y49 =>
 some ((y49.1, (⟨0, 0⟩ : S29))))
noncomputable abbrev X9 (n : Nat) : Cx := cxOf Proofs.Tryd.prog EG 9 n
noncomputable def C9 : Code := bodyOf Proofs.Tryd.prog 9
abbrev b9_0 : AObj := .cells [(dI 0), (dI 0)]
theorem ok9 (m : Nat) (a0 : ByteArray) (o : ((List Int) × S29)) (h : f9 m a0 = some o) (n : Nat) (hn : m + 2 ≤ n) : FnK Proofs.Tryd.prog EG n 9 [.v (eS a0)] 1 (List.map eI o.1) (e29 o.2) := by
 obtain ⟨n, rfl⟩ : ∃ q, n = q + 1 := ⟨n - 1, by omega⟩
 unfold f9 at h
 refine FnK.of (by kernel_rfl) (by kernel_rfl) (by kernel_rfl) ⟨(.v (.str a0)) :: u40 [], []⟩ (by kernel_rfl) ?_
 refine Wp.sq ?_
 refine Wp.rg ?_
 refine Ops.sg 2 2 ?_
 refine Ops.dn ?_
 refine seqQ.n ?_
 refine Wp.sq ?_
 refine Wp.sq ?_
 refine Wp.rg ?_
 refine Ops.sg 3 3 ?_
 refine Ops.dn ?_
 refine seqQ.n ?_
 refine Wp.cnd h [0, 2, 3] 1 (by kernel_rfl) (fun h => ?_) (fun h => ?_)
 ·refine Wp.sq ?_
  refine Wp.rg ?_
  obtain ⟨v1, ev1, h⟩ := bnd_some h
  refine Ops.on 1 (fun h0 e0 => (call_ok (E' := EG) (h := h0) (by kernel_rfl) (Args.v (vI 1) (eI 1) (by kernel_rfl) (Args.v (vI (-1)) (eI (-1)) (by kernel_rfl) Args.nil)) (ok23 m 1 (-1) v1 ev1 n (by omega)))) ?_
  refine Ops.sg 2 3 ?_
  refine Ops.dn ?_
  refine seqQ.n ?_
  refine Wp.ret (by kernel_rfl) ?_
  refine sqQ.r ?_
  refine seqQ.r ?_
  exact fnQK.r' (X9 n) eI e29 h (RetOkK.nil (.agg [(vI v1.fCode), (vI v1.fIndex)]) (by kernel_rfl))
 ·refine Wp.sk ?_
  refine sqQ.n' ?_
  refine seqQ.n ?_
  refine Wp.sq ?_
  refine Wp.rg ?_
  refine Ops.sg 1 1 ?_
  refine Ops.dn ?_
  refine seqQ.n ?_
  refine Wp.sq ?_
  refine Wp.sq ?_
  refine Wp.rg ?_
  refine Ops.sg 1 1 ?_
  refine Ops.dn ?_
  refine seqQ.n ?_
  refine Wp.block' 0 [2, 3, 4] 2 (by kernel_rfl) ?_
  have hLx48 : ∀ (kx29 : Nat) (v26 : (List Int)) (v27 : Int)  (ox28 : ((List Int) × S29) ⊕ ((List Int) × Int)), iter (fun (y : (List Int) × Int) => f9_B2 m a0 y.1 y.2) kx29 (v26, v27) = some ox28 → ∀ nx30, kx29 ≤ nx30 → (∀ r, ox28 = .inl r → ∀ σ, RetOkK (X9 n) (resOf Proofs.Tryd.prog 9) 1 (List.map eI r.1) (e29 r.2) σ → (seqQ (X9 n) (cR (cR (cR (cR C9)))) (fnQK (X9 n).E.T (resOf Proofs.Tryd.prog 9) 1 (List.map eI o.1) (e29 o.2))) .ret σ) → (∀ (y : (List Int) × Int) , ox28 = .inr y → (seqQ (X9 n) (cR (cR (cR (cR C9)))) (fnQK (X9 n).E.T (resOf Proofs.Tryd.prog 9) 1 (List.map eI o.1) (e29 o.2))) .normal ⟨q2 ((.v (.sl .nil (List.map eI []))) :: (.ptr 0 0) :: (appD 2 (List.map eI y.1)) :: q36 []), [b9_0, .dead, (appO 1 (List.map eI y.1))]⟩) → Lp (X9 n) [0, 2, 3, 4, 5] 2 (cL (cL (cR (cL (cR (cR (cR C9))))))) nx30 ⟨(.v (.str a0)) :: q1 ((.v (.sl .nil (List.map eI []))) :: (.ptr 0 0) :: (appD 2 (List.map eI v26)) :: (dI v27) :: q35 []), [b9_0, .dead, (appO 1 (List.map eI v26))]⟩ (blkQ (X9 n) 0 [2, 3, 4] 2 (seqQ (X9 n) (cR (cR (cR (cR C9)))) (fnQK (X9 n).E.T (resOf Proofs.Tryd.prog 9) 1 (List.map eI o.1) (e29 o.2)))) := by
   intro kx29
   induction kx29 with
   | zero => intro v26 v27  ox28 h; exact (iter_zero h).elim
   | succ kx29 ihx31 =>
    intro v26 v27  ox28 h nx30 hnx34 hrx32 hxx33
    obtain ⟨nx30, rfl⟩ : ∃ q, nx30 = q + 1 := ⟨nx30 - 1, by omega⟩
    obtain ⟨sx35, h, hsx36⟩ := iter_some h
    have h : f9_B2 m a0 v26 v27 = some sx35 := h
    unfold f9_B2 at h
    refine Lp.succ ?_
    refine Wp.sq ?_
    refine Wp.sq ?_
    refine Wp.rg ?_
    refine Ops.sg 4 4 ?_
    refine Ops.dn ?_
    refine seqQ.n ?_
    refine Wp.cnd h [0, 2, 3, 4, 5] 3 (by kernel_rfl) (fun h => ?_) (fun h => ?_)
    ·refine Wp.sk ?_
     refine sqQ.n ⟨(.v (.str a0)) :: q1 ((.v (.sl .nil (List.map eI []))) :: (.ptr 0 0) :: (appD 3 (List.map eI v26)) :: (dI v27) :: q35 []), [b9_0, .dead, .dead, (appO 1 (List.map eI v26))]⟩ (by generalize v26 = z0; cases z0 <;> kernel_rfl) ?_
     refine seqQ.n ?_
     refine Wp.block' 1 [0, 2, 3, 4, 5] 4 (by kernel_rfl) ?_
     refine Wp.sq ?_
     refine Wp.rg ?_
     refine Ops.sg 2 2 ?_
     obtain ⟨v37, ev37, h⟩ := bnd_some h
     refine Ops.on 3 (fun h0 e0 => (str_sub (T := T) h0 9 a0 v37 (some v27) none ev37 (by kernel_rfl))) ?_
     obtain ⟨v38, ev38, h⟩ := bnd_some h
     refine Ops.on 4 (fun h0 e0 => (call_ok (E' := EG) (h := h0) (by kernel_rfl) (Args.v (.str v37) (eS v37) (by kernel_rfl) Args.nil) (ok24 m v37 v38 ev38 n (by omega)))) ?_
     refine Ops.sg 5 9 ?_
     refine Ops.dn ?_
     refine seqQ.n ?_
     refine Wp.sq ?_
     refine Wp.sq ?_
     refine Wp.rg ?_
     refine Ops.sg 3 3 ?_
     refine Ops.hv (fun KQ => ∀ (d41 d42 : D) (v43 : Bool) (v44 : Bool), f9_r1 m v26 v27 v38 v44 = some sx35 → KQ 6 ⟨(.v (.str a0)) :: q1 ((.v (.sl .nil (List.map eI []))) :: (.ptr 0 0) :: (appD 3 (List.map eI v26)) :: (dI v27) :: (.v (.int .i32 v38.1)) :: (dI v38.2) :: q8 ((.v (.tuple [(.int .i32 v38.1), (vI v38.2)])) :: (.v (.str a0)) :: (dI v27) :: (.v (.str v37)) :: (.v (.tuple [(.int .i32 v38.1), (vI v38.2)])) :: (.v (.int .i32 v38.1)) :: (dI v38.2) :: (.v (.int .i32 v38.1)) :: (dB v43) :: (dB v43) :: d41 :: d42 :: (dB v44) :: q12 [])), [b9_0, .dead, .dead, (appO 1 (List.map eI v26))]⟩) ?_ fun J9j45 => ?_
     ·intro d41 d42 v43 v44 h
      unfold f9_r1 at h
      refine Ops.dn ?_
      refine seqQ.n ?_
      refine Wp.cnd h [0, 2, 3, 4, 5, 6, 7] 4 (by kernel_rfl) (fun h => ?_) (fun h => ?_)
      ·refine Wp.sq ?_
       refine Wp.rg ?_
       refine Ops.sg 1 1 ?_
       obtain ⟨v46, ev46, h⟩ := bnd_some h
       refine Ops.on 2 (fun h0 e0 => (call_ok (E' := EG) (h := h0) (by kernel_rfl) (Args.v (vI 5) (eI 5) (by kernel_rfl) (Args.v (vI v27) (eI v27) (by kernel_rfl) Args.nil)) (ok23 m 5 v27 v46 ev46 n (by omega)))) ?_
       refine Ops.sg 2 4 ?_
       refine Ops.dn ?_
       refine seqQ.n ?_
       refine Wp.ret (by kernel_rfl) ?_
       refine sqQ.r ?_
       refine seqQ.r ?_
       refine blkQ.r ?_
       cases h
       refine lpQ.r ?_
       refine blkQ.r ?_
       exact hrx32 _ hsx36 _ (RetOkK.forget [0, 2, 3, 4, 5] (by kernel_rfl) (RetOkK.nil (.agg [(vI v46.fCode), (vI v46.fIndex)]) (by kernel_rfl)))
      ·refine Wp.sk ?_
       refine sqQ.n ⟨(.v (.str a0)) :: q1 ((.v (.sl .nil (List.map eI []))) :: (.ptr 0 0) :: (appD 4 (List.map eI v26)) :: (dI v27) :: (.v (.int .i32 v38.1)) :: (dI v38.2) :: q33 []), [b9_0, .dead, .dead, .dead, (appO 1 (List.map eI v26))]⟩ (by generalize v26 = z0; cases z0 <;> kernel_rfl) ?_
       refine seqQ.n ?_
       refine Wp.sq ?_
       refine Wp.rg ?_
       refine Ops.sg 4 4 ?_
       obtain ⟨v47, ev47, h⟩ := bnd_some h
       refine Ops.on 5 (fun h0 e0 => (app_r (T := T) (g := .nil) h0 47 3 4 1 ti3 .nonfull eI v26 ([w64 v38.1]) v47 ev47 (by kernel_rfl) (by kernel_rfl) (by kernel_rfl) (by kernel_rfl) (fun _ => rfl) (hq_of e0 (by kernel_rfl)))) ?_
       refine Ops.sg 1 6 ?_
       refine Ops.dn ?_
       refine seqQ.n ?_
       refine Wp.rg ?_
       refine Ops.sg 4 4 ?_
       refine Ops.dn ?_
       refine blkQ.n ⟨(.v (.str a0)) :: q1 ((.v (.sl .nil (List.map eI []))) :: (.ptr 0 0) :: (appD 4 (List.map eI v47)) :: (dI (w64 (v27 + v38.2))) :: q35 []), [b9_0, .dead, .dead, .dead, (appO 1 (List.map eI v47))]⟩ (by generalize v47 = z0; cases z0 <;> kernel_rfl) ?_
       refine lpQ.n ⟨(.v (.str a0)) :: q1 ((.v (.sl .nil (List.map eI []))) :: (.ptr 0 0) :: (appD 2 (List.map eI v47)) :: (dI (w64 (v27 + v38.2))) :: q35 []), [b9_0, .dead, (appO 1 (List.map eI v47))]⟩ (by generalize v47 = z0; cases z0 <;> kernel_rfl) ?_
       cases h
       exact ihx31 v47 (w64 (v27 + v38.2))  _ hsx36 _ (by omega) hrx32 hxx33
     refine Ops.hv (fun KQ => ∀ v39 : Bool, f9_r1 m v26 v27 v38 (v39 && (decide (v38.2 ≤ 1))) = some sx35 → KQ 3 ⟨(.v (.str a0)) :: q1 ((.v (.sl .nil (List.map eI []))) :: (.ptr 0 0) :: (appD 3 (List.map eI v26)) :: (dI v27) :: (.v (.int .i32 v38.1)) :: (dI v38.2) :: q8 ((.v (.tuple [(.int .i32 v38.1), (vI v38.2)])) :: (.v (.str a0)) :: (dI v27) :: (.v (.str v37)) :: (.v (.tuple [(.int .i32 v38.1), (vI v38.2)])) :: (.v (.int .i32 v38.1)) :: (dI v38.2) :: (.v (.int .i32 v38.1)) :: (dB v39) :: (dB v39) :: q15 [])), [b9_0, .dead, .dead, (appO 1 (List.map eI v26))]⟩) ?_ fun G9g40 => Ops.st _ (by kernel_rfl) (G9g40 (v38.1 == 65533) h)
     intro v39 h
     cases v39
     ·refine Ops.sg 3 6 ?_
      exact Ops.st _ (by kernel_rfl) (J9j45 U U false false h)
     ·refine Ops.sg 3 6 ?_
      exact Ops.st _ (by kernel_rfl) (J9j45 (dI v38.2) (dB (decide (v38.2 ≤ 1))) true (decide (v38.2 ≤ 1)) h)
    ·refine Wp.exit (id := 0) (by kernel_rfl) ?_
     refine sqQ.x ?_
     refine seqQ.x ?_
     cases h
     refine lpQ.x ?_
     refine blkQ.x ⟨q2 ((.v (.sl .nil (List.map eI []))) :: (.ptr 0 0) :: (appD 2 (List.map eI v26)) :: q36 []), [b9_0, .dead, (appO 1 (List.map eI v26))]⟩ (by generalize v26 = z0; cases z0 <;> kernel_rfl) ?_
     exact hxx33 (v26, v27)  hsx36
  refine Wp.loop' [0, 2, 3, 4, 5] 2 (by kernel_rfl) ⟨(.v (.str a0)) :: q1 ((.v (.sl .nil (List.map eI []))) :: (.ptr 0 0) :: (appD 2 (List.map eI [])) :: (dI 0) :: q35 []), [b9_0, .dead, .dead]⟩ (by kernel_rfl) ?_
  rcases brk_some h with ⟨r50, er50, h⟩ | ⟨y49, ey49, h⟩
  ·refine hLx48 _ [] 0  _ er50 n (by omega) (fun r er σ hσ => ?_) (fun y  ey => by cases ey)
   cases er
   refine seqQ.r ?_
   exact fnQK.r' (X9 n) eI e29 h hσ
  ·refine hLx48 _ [] 0  _ ey49 n (by omega) (fun r er => by cases er) (fun y  ey => ?_)
   cases ey
   refine seqQ.n ?_
   refine Wp.sq ?_
   refine Wp.rg ?_
   refine Ops.sg 4 4 ?_
   refine Ops.dn ?_
   refine seqQ.n ?_
   refine Wp.ret (by kernel_rfl) ?_
   exact fnQK.r' (X9 n) eI e29 h (RetOkK.app 2 (List.map eI y49.1) (.agg [(vI 0), (vI 0)]) (by kernel_rfl) (by kernel_rfl))
def f56 (m : Nat) (a0 : ByteArray) (a1 : Int) : Option Int := some (Lib.indexByte a0.data.toList a1.toNat.toUInt8)
theorem ok56 (m : Nat) (a0 : ByteArray) (a1 : Int) (o : Int) (h : f56 m a0 a1 = some o) (n : Nat) (hn : m + 1 ≤ n) : Fn Proofs.Tryd.prog EG n 56 [.v (eS a0), .v ((eK .u8) a1)] (eI o) := by
 obtain ⟨n, rfl⟩ : ∃ q, n = q + 1 := ⟨n - 1, by omega⟩
 refine ora_fn (xs := [eS a0, (eK .u8) a1]) (by kernel_rfl) (by kernel_rfl) (by kernel_rfl) (F := ixbyteF) ?_ rfl
 cases h
 rfl
def f39_r1 (m : Nat) (v67 : Int) (v96 : Bool) : Option (Stp Bool (Int)) :=
 cnd v96
 (some (.ret false))
 (some (.nxt (w64 (v67 + 1))))
def f39_r2 (m : Nat) (v67 : Int) (v77 : Int) (v83 : Bool) : Option (Stp Bool (Int)) :=
 bnd (cnd v83
 (some true)
 (cnd (decide (v77 < 128))
 (bnd (f56 m ((⟨#[32, 9, 10, 40, 41, 91, 93, 44, 59]⟩ : ByteArray)) (IntKind.u8.wrap v77)) fun v100 =>
 some (decide (v100 ≥ 0)))
 (some false))) fun v96 =>
 f39_r1 m v67 v96
def f39_B3 (m : Nat) (v1 : ((List Int) × S29)) (v67 : Int) : Option (Stp Bool (Int)) :=
 cnd (decide (v67 < (v1.1.length : Int)))
 (bnd (idx v1.1 v67) fun v77 =>
 f39_r2 m v67 v77 ((v77 == 0) || (decide (v77 ≥ 983040))))
 (some (.brk v67))
def f39_r4 (m : Nat) (v1 : ((List Int) × S29)) (v16 : Bool) : Option Bool :=
 cnd v16
 (some false)
 (brk (iter (fun (y : Int) => f39_B3 m v1 y) m 0) some fun y102 =>
 some true)
def f39_r5 (m : Nat) (v1 : ((List Int) × S29)) (v8 : Bool) : Option Bool :=
 f39_r4 m v1 (v8 || (decide ((v1.1.length : Int) > 30)))
def f39 (m : Nat) (a0 : ByteArray) : Option Bool :=
 bnd (f9 m a0) fun v1 =>
 f39_r5 m v1 ((!((v1.2.fCode == 0) && ((v1.2.fIndex == 0) && true))) || (decide ((v1.1.length : Int) < 1)))
noncomputable abbrev X39 (n : Nat) : Cx := cxOf Proofs.Tryd.prog EG 39 n
noncomputable def C39 : Code := bodyOf Proofs.Tryd.prog 39
abbrev b39_0 (w0 : ((List Int) × S29)) : AObj := .cells [(dI w0.2.fCode), (dI w0.2.fIndex)]
theorem ok39 (m : Nat) (a0 : ByteArray) (o : Bool) (h : f39 m a0 = some o) (n : Nat) (hn : m + 3 ≤ n) : Fn Proofs.Tryd.prog EG n 39 [.v (eS a0)] (eB o) := by
 obtain ⟨n, rfl⟩ : ∃ q, n = q + 1 := ⟨n - 1, by omega⟩
 unfold f39 at h
 refine Fn.of (by kernel_rfl) (by kernel_rfl) (by kernel_rfl) ⟨(.v (.str a0)) :: u40 (u7 []), []⟩ (by kernel_rfl) ?_
 refine Wp.sq ?_
 refine Wp.rg ?_
 refine Ops.sg 1 1 ?_
 refine Ops.dn ?_
 refine seqQ.n ?_
 refine Wp.sq ?_
 refine Wp.rg ?_
 refine Ops.sg 1 1 ?_
 obtain ⟨v1, ev1, h⟩ := bnd_some h
 refine Ops.on 2 (fun h0 e0 => (call_keep (E' := EG) (h := h0) (by kernel_rfl) (by kernel_rfl) (by kernel_rfl) (ArgsC.cons (.v (.str a0)) (.v (eS a0)) (by kernel_rfl) ArgsC.nil) (ok9 m a0 v1 ev1 n (by omega)))) ?_
 refine Ops.sg 6 8 ?_
 refine Ops.dn ?_
 refine seqQ.n ?_
 refine Wp.sq ?_
 refine Wp.sq ?_
 refine Wp.rg ?_
 refine Ops.sg 4 4 ?_
 refine Ops.hv (fun KQ => ∀ (d4 d5 d6 : D) (v7 : Bool) (v8 : Bool), f39_r5 m v1 v8 = some o → KQ 8 ⟨(.v (.str a0)) :: u1 ((dB false) :: (appD 0 (List.map eI v1.1)) :: (.ptr 1 0) :: u2 ((.tuple [(appD 0 (List.map eI v1.1)), (.v (.agg [(vI v1.2.fCode), (vI v1.2.fIndex)]))]) :: (.v (.str a0)) :: (.tuple [(appD 0 (List.map eI v1.1)), (.v (.agg [(vI v1.2.fCode), (vI v1.2.fIndex)]))]) :: (appD 0 (List.map eI v1.1)) :: (.v (.agg [(vI v1.2.fCode), (vI v1.2.fIndex)])) :: (.v (.agg [(vI v1.2.fCode), (vI v1.2.fIndex)])) :: (.v (.agg [(vI 0), (vI 0)])) :: (dB v7) :: (dB v7) :: d4 :: d5 :: d6 :: (dB v8) :: u28 [])), [(appO 1 (List.map eI v1.1)), (b39_0 v1)]⟩) ?_ fun J39j9 => ?_
 ·intro d4 d5 d6 v7 v8 h
  unfold f39_r5 at h
  refine Ops.sg 1 9 ?_
  refine Ops.hv (fun KQ => ∀ (d12 d13 d14 : D) (v15 : Bool) (v16 : Bool), f39_r4 m v1 v16 = some o → KQ 13 ⟨(.v (.str a0)) :: u1 ((dB false) :: (appD 0 (List.map eI v1.1)) :: (.ptr 1 0) :: u2 ((.tuple [(appD 0 (List.map eI v1.1)), (.v (.agg [(vI v1.2.fCode), (vI v1.2.fIndex)]))]) :: (.v (.str a0)) :: (.tuple [(appD 0 (List.map eI v1.1)), (.v (.agg [(vI v1.2.fCode), (vI v1.2.fIndex)]))]) :: (appD 0 (List.map eI v1.1)) :: (.v (.agg [(vI v1.2.fCode), (vI v1.2.fIndex)])) :: (.v (.agg [(vI v1.2.fCode), (vI v1.2.fIndex)])) :: (.v (.agg [(vI 0), (vI 0)])) :: (dB v7) :: (dB v7) :: d4 :: d5 :: d6 :: (dB v15) :: (dB v15) :: d12 :: d13 :: d14 :: (dB v16) :: u23 [])), [(appO 1 (List.map eI v1.1)), (b39_0 v1)]⟩) ?_ fun J39j17 => ?_
  ·intro d12 d13 d14 v15 v16 h
   unfold f39_r4 at h
   refine Ops.dn ?_
   refine seqQ.n ?_
   refine Wp.cnd h [2, 3] 2 (by kernel_rfl) (fun h => ?_) (fun h => ?_)
   ·refine Wp.sq ?_
    refine Wp.rg ?_
    refine Ops.sg 1 1 ?_
    refine Ops.dn ?_
    refine seqQ.n ?_
    refine Wp.ret (by kernel_rfl) ?_
    refine sqQ.r ?_
    refine seqQ.r ?_
    exact fnQ.r' (X39 n) (fun z => (eB z)) h (RetOk.mk' (dB false) (by kernel_rfl) (by kernel_rfl))
   ·refine Wp.sk ?_
    refine sqQ.n ⟨(.v (.str a0)) :: u1 ((dB false) :: (appD 0 (List.map eI v1.1)) :: (.ptr 1 0) :: u2 ((.tuple [(appD 0 (List.map eI v1.1)), (.v (.agg [(vI v1.2.fCode), (vI v1.2.fIndex)]))]) :: (.v (.str a0)) :: (.tuple [(appD 0 (List.map eI v1.1)), (.v (.agg [(vI v1.2.fCode), (vI v1.2.fIndex)]))]) :: (appD 0 (List.map eI v1.1)) :: (.v (.agg [(vI v1.2.fCode), (vI v1.2.fIndex)])) :: (.v (.agg [(vI v1.2.fCode), (vI v1.2.fIndex)])) :: (.v (.agg [(vI 0), (vI 0)])) :: (dB v7) :: (dB v7) :: d4 :: d5 :: d6 :: (dB v15) :: (dB v15) :: d12 :: d13 :: d14 :: (dB v16) :: u23 [])), [(appO 1 (List.map eI v1.1)), (b39_0 v1)]⟩ (by generalize v1.1 = z0; cases z0 <;> kernel_rfl) ?_
    refine seqQ.n ?_
    refine Wp.sq ?_
    refine Wp.sq ?_
    refine Wp.rg ?_
    refine Ops.sg 1 1 ?_
    refine Ops.on 2 (fun h0 e0 => (len_a (T := T) (g := .nil) h0 47 3 0 eI v1.1 (by kernel_rfl))) ?_
    refine Ops.sg 1 3 ?_
    refine Ops.dn ?_
    refine seqQ.n ?_
    refine Wp.block' 0 [2] 2 (by kernel_rfl) ?_
    have hLx101 : ∀ (kx69 : Nat) (v67 : Int)  (ox68 : Bool ⊕ (Int)), iter (fun (y : Int) => f39_B3 m v1 y) kx69 v67 = some ox68 → ∀ nx70, kx69 ≤ nx70 → (∀ r, ox68 = .inl r → ∀ σ, RetOk (X39 n) (resOf Proofs.Tryd.prog 39) (eB r) σ → (seqQ (X39 n) (cR (cR (cR (cR C39)))) (fnQ (X39 n).E.T (resOf Proofs.Tryd.prog 39) (eB o))) .ret σ) → (∀ (y : Int) , ox68 = .inr y → (seqQ (X39 n) (cR (cR (cR (cR C39)))) (fnQ (X39 n).E.T (resOf Proofs.Tryd.prog 39) (eB o))) .normal ⟨q2 ((dB false) :: q22 ((appD 0 (List.map eI v1.1)) :: (dI (v1.1.length : Int)) :: (dI y) :: q20 [])), [(appO 1 (List.map eI v1.1)), (b39_0 v1)]⟩) → Lp (X39 n) [2, 25, 26, 27] 2 (cL (cL (cR (cL (cR (cR (cR C39))))))) nx70 ⟨q2 ((dB false) :: q22 ((appD 0 (List.map eI v1.1)) :: (dI (v1.1.length : Int)) :: (dI v67) :: q20 [])), [(appO 1 (List.map eI v1.1)), (b39_0 v1)]⟩ (blkQ (X39 n) 0 [2] 2 (seqQ (X39 n) (cR (cR (cR (cR C39)))) (fnQ (X39 n).E.T (resOf Proofs.Tryd.prog 39) (eB o)))) := by
     intro kx69
     induction kx69 with
     | zero => intro v67  ox68 h; exact (iter_zero h).elim
     | succ kx69 ihx71 =>
      intro v67  ox68 h nx70 hnx74 hrx72 hxx73
      obtain ⟨nx70, rfl⟩ : ∃ q, nx70 = q + 1 := ⟨nx70 - 1, by omega⟩
      obtain ⟨sx75, h, hsx76⟩ := iter_some h
      have h : f39_B3 m v1 v67 = some sx75 := h
      unfold f39_B3 at h
      refine Lp.succ ?_
      refine Wp.sq ?_
      refine Wp.rg ?_
      refine Ops.sg 1 1 ?_
      refine Ops.dn ?_
      refine seqQ.n ?_
      refine Wp.sq ?_
      refine Wp.cnd h [2, 25, 26, 27] 2 (by kernel_rfl) (fun h => ?_) (fun h => ?_)
      ·refine Wp.sk ?_
       refine sqQ.n ⟨q2 ((dB false) :: q22 ((appD 0 (List.map eI v1.1)) :: (dI (v1.1.length : Int)) :: (dI v67) :: (dB (decide (v67 < (v1.1.length : Int)))) :: q19 [])), [(appO 1 (List.map eI v1.1)), (b39_0 v1)]⟩ (by generalize v1.1 = z0; cases z0 <;> kernel_rfl) ?_
       refine seqQ.n ?_
       refine Wp.sq ?_
       refine Wp.block' 1 [2, 25, 26, 27] 2 (by kernel_rfl) ?_
       refine Wp.sq ?_
       refine Wp.rg ?_
       obtain ⟨v77, ev77, h⟩ := bnd_some h
       refine Ops.on 1 (fun h0 e0 => (ix_a (T := T) (g := .nil) h0 47 3 1 0 eI v1.1 v67 v77 ev77 (by kernel_rfl) (by kernel_rfl) (fun _ => rfl))) ?_
       refine Ops.sg 2 3 ?_
       refine Ops.dn ?_
       refine seqQ.n ?_
       refine Wp.sq ?_
       refine Wp.rg ?_
       refine Ops.sg 3 3 ?_
       refine Ops.hv (fun KQ => ∀ (d80 d81 : D) (v82 : Bool) (v83 : Bool), f39_r2 m v67 v77 v83 = some sx75 → KQ 6 ⟨q2 ((dB false) :: q3 ((dI v77) :: q18 ((appD 0 (List.map eI v1.1)) :: (dI (v1.1.length : Int)) :: (dI v67) :: (dB (decide (v67 < (v1.1.length : Int)))) :: (.vptr [(vI v77)]) :: (dI v77) :: (dI v77) :: (dB v82) :: (dB v82) :: d80 :: d81 :: (dB v83) :: q11 []))), [(appO 1 (List.map eI v1.1)), (b39_0 v1)]⟩) ?_ fun J39j84 => ?_
       ·intro d80 d81 v82 v83 h
        unfold f39_r2 at h
        refine Ops.sg 1 7 ?_
        refine Ops.hv (fun KQ => ∀ (d87 d88 d89 d90 d91 d92 d93 d94 : D) (v95 : Bool) (v96 : Bool), f39_r1 m v67 v96 = some sx75 → KQ 16 ⟨q2 ((dB false) :: q3 ((dI v77) :: q18 ((appD 0 (List.map eI v1.1)) :: (dI (v1.1.length : Int)) :: (dI v67) :: (dB (decide (v67 < (v1.1.length : Int)))) :: (.vptr [(vI v77)]) :: (dI v77) :: (dI v77) :: (dB v82) :: (dB v82) :: d80 :: d81 :: (dB v95) :: (dB v95) :: d87 :: d88 :: d89 :: d90 :: d91 :: d92 :: d93 :: d94 :: (dB v96) :: q1 []))), [(appO 1 (List.map eI v1.1)), (b39_0 v1)]⟩) ?_ fun J39j97 => ?_
        ·intro d87 d88 d89 d90 d91 d92 d93 d94 v95 v96 h
         unfold f39_r1 at h
         refine Ops.dn ?_
         refine seqQ.n ?_
         refine Wp.cnd h [2, 25, 26, 27] 2 (by kernel_rfl) (fun h => ?_) (fun h => ?_)
         ·refine Wp.sq ?_
          refine Wp.rg ?_
          refine Ops.sg 1 1 ?_
          refine Ops.dn ?_
          refine seqQ.n ?_
          refine Wp.ret (by kernel_rfl) ?_
          refine sqQ.r ?_
          refine blkQ.r ?_
          refine seqQ.r ?_
          cases h
          refine lpQ.r ?_
          refine blkQ.r ?_
          exact hrx72 _ hsx76 _ (RetOk.forget [2, 25, 26, 27] (by kernel_rfl) (RetOk.mk' (dB false) (by kernel_rfl) (by kernel_rfl)))
         ·refine Wp.sk ?_
          refine sqQ.n ⟨q2 ((dB false) :: q3 ((dI v77) :: q18 ((appD 0 (List.map eI v1.1)) :: (dI (v1.1.length : Int)) :: (dI v67) :: (dB (decide (v67 < (v1.1.length : Int)))) :: (.vptr [(vI v77)]) :: (dI v77) :: (dI v77) :: (dB v82) :: (dB v82) :: d80 :: d81 :: (dB v95) :: (dB v95) :: d87 :: d88 :: d89 :: d90 :: d91 :: d92 :: d93 :: d94 :: (dB v96) :: q1 []))), [(appO 1 (List.map eI v1.1)), (b39_0 v1)]⟩ (by generalize v1.1 = z0; cases z0 <;> kernel_rfl) ?_
          refine blkQ.n ⟨q2 ((dB false) :: q3 ((dI v77) :: q18 ((appD 0 (List.map eI v1.1)) :: (dI (v1.1.length : Int)) :: (dI v67) :: (dB (decide (v67 < (v1.1.length : Int)))) :: (.vptr [(vI v77)]) :: (dI v77) :: (dI v77) :: (dB v82) :: (dB v82) :: d80 :: d81 :: (dB v95) :: (dB v95) :: d87 :: d88 :: d89 :: d90 :: d91 :: d92 :: d93 :: d94 :: (dB v96) :: q1 []))), [(appO 1 (List.map eI v1.1)), (b39_0 v1)]⟩ (by generalize v1.1 = z0; cases z0 <;> kernel_rfl) ?_
          refine seqQ.n ?_
          refine Wp.rg ?_
          refine Ops.sg 2 2 ?_
          refine Ops.dn ?_
          refine lpQ.n ⟨q2 ((dB false) :: q22 ((appD 0 (List.map eI v1.1)) :: (dI (v1.1.length : Int)) :: (dI (w64 (v67 + 1))) :: q20 [])), [(appO 1 (List.map eI v1.1)), (b39_0 v1)]⟩ (by generalize v1.1 = z0; cases z0 <;> kernel_rfl) ?_
          cases h
          exact ihx71 (w64 (v67 + 1))  _ hsx76 _ (by omega) hrx72 hxx73
        obtain ⟨v96, ev96, h⟩ := bnd_some h
        refine Ops.hv (fun KQ => ∀ v85 : Bool, (cnd v85 (some true) (cnd (decide (v77 < 128)) (bnd (f56 m ((⟨#[32, 9, 10, 40, 41, 91, 93, 44, 59]⟩ : ByteArray)) (IntKind.u8.wrap v77)) fun v100 => some (decide (v100 ≥ 0))) (some false))) = some v96 → KQ 7 ⟨q2 ((dB false) :: q3 ((dI v77) :: q18 ((appD 0 (List.map eI v1.1)) :: (dI (v1.1.length : Int)) :: (dI v67) :: (dB (decide (v67 < (v1.1.length : Int)))) :: (.vptr [(vI v77)]) :: (dI v77) :: (dI v77) :: (dB v82) :: (dB v82) :: d80 :: d81 :: (dB v85) :: (dB v85) :: q10 []))), [(appO 1 (List.map eI v1.1)), (b39_0 v1)]⟩) ?_ fun G39g86 => Ops.st _ (by kernel_rfl) (G39g86 v83 ev96)
        intro v85 ev96
        cases v85
        ·have ev96 := cnd_f ev96
         refine Ops.sg 3 10 ?_
         refine Ops.hv (fun KQ => ∀ v98 : Bool, (cnd v98 (bnd (f56 m ((⟨#[32, 9, 10, 40, 41, 91, 93, 44, 59]⟩ : ByteArray)) (IntKind.u8.wrap v77)) fun v100 => some (decide (v100 ≥ 0))) (some false)) = some v96 → KQ 10 ⟨q2 ((dB false) :: q3 ((dI v77) :: q18 ((appD 0 (List.map eI v1.1)) :: (dI (v1.1.length : Int)) :: (dI v67) :: (dB (decide (v67 < (v1.1.length : Int)))) :: (.vptr [(vI v77)]) :: (dI v77) :: (dI v77) :: (dB v82) :: (dB v82) :: d80 :: d81 :: (dB false) :: (dB false) :: (dI v77) :: (dB v98) :: (dB v98) :: q7 []))), [(appO 1 (List.map eI v1.1)), (b39_0 v1)]⟩) ?_ fun G39g99 => Ops.st _ (by kernel_rfl) (G39g99 (decide (v77 < 128)) ev96)
         intro v98 ev96
         cases v98
         ·have ev96 := cnd_f ev96
          refine Ops.sg 6 16 ?_
          exact Ops.st _ (by kernel_rfl) (J39j97 (dI v77) (dB false) (dB false) U U U U (dB false) false false (some_sub (fun v96 => f39_r1 m v67 v96 = some sx75) ev96 h))
         ·have ev96 := cnd_t ev96
          refine Ops.sg 2 12 ?_
          obtain ⟨v100, ev100, ev96⟩ := bnd_some ev96
          refine Ops.on 13 (fun h0 e0 => (call_ok (E' := EG) (h := h0) (by kernel_rfl) (Args.v (.str ((⟨#[32, 9, 10, 40, 41, 91, 93, 44, 59]⟩ : ByteArray))) (eS ((⟨#[32, 9, 10, 40, 41, 91, 93, 44, 59]⟩ : ByteArray))) (by kernel_rfl) (Args.v (.int .u8 (IntKind.u8.wrap v77)) ((eK .u8) (IntKind.u8.wrap v77)) (by kernel_rfl) Args.nil)) (ok56 m ((⟨#[32, 9, 10, 40, 41, 91, 93, 44, 59]⟩ : ByteArray)) (IntKind.u8.wrap v77) v100 ev100 n (by omega)))) ?_
          refine Ops.sg 3 16 ?_
          exact Ops.st _ (by kernel_rfl) (J39j97 (dI v77) (dB true) (dB true) (dI v77) (.v (.int .u8 (IntKind.u8.wrap v77))) (dI v100) (dB (decide (v100 ≥ 0))) (dB (decide (v100 ≥ 0))) false (decide (v100 ≥ 0)) (some_sub (fun v96 => f39_r1 m v67 v96 = some sx75) ev96 h))
        ·have ev96 := cnd_t ev96
         refine Ops.sg 9 16 ?_
         exact Ops.st _ (by kernel_rfl) (J39j97 U U U U U U U U true true (some_sub (fun v96 => f39_r1 m v67 v96 = some sx75) ev96 h))
       refine Ops.hv (fun KQ => ∀ v78 : Bool, f39_r2 m v67 v77 (v78 || (decide (v77 ≥ 983040))) = some sx75 → KQ 3 ⟨q2 ((dB false) :: q3 ((dI v77) :: q18 ((appD 0 (List.map eI v1.1)) :: (dI (v1.1.length : Int)) :: (dI v67) :: (dB (decide (v67 < (v1.1.length : Int)))) :: (.vptr [(vI v77)]) :: (dI v77) :: (dI v77) :: (dB v78) :: (dB v78) :: q14 []))), [(appO 1 (List.map eI v1.1)), (b39_0 v1)]⟩) ?_ fun G39g79 => Ops.st _ (by kernel_rfl) (G39g79 (v77 == 0) h)
       intro v78 h
       cases v78
       ·refine Ops.sg 3 6 ?_
        exact Ops.st _ (by kernel_rfl) (J39j84 (dI v77) (dB (decide (v77 ≥ 983040))) false (decide (v77 ≥ 983040)) h)
       ·refine Ops.sg 3 6 ?_
        exact Ops.st _ (by kernel_rfl) (J39j84 U U true true h)
      ·refine Wp.exit (id := 0) (by kernel_rfl) ?_
       refine sqQ.x ?_
       refine seqQ.x ?_
       cases h
       refine lpQ.x ?_
       refine blkQ.x ⟨q2 ((dB false) :: q22 ((appD 0 (List.map eI v1.1)) :: (dI (v1.1.length : Int)) :: (dI v67) :: q20 [])), [(appO 1 (List.map eI v1.1)), (b39_0 v1)]⟩ (by generalize v1.1 = z0; cases z0 <;> kernel_rfl) ?_
       exact hxx73 v67  hsx76
    refine Wp.loop' [2, 25, 26, 27] 2 (by kernel_rfl) ⟨q2 ((dB false) :: q22 ((appD 0 (List.map eI v1.1)) :: (dI (v1.1.length : Int)) :: (dI 0) :: q20 [])), [(appO 1 (List.map eI v1.1)), (b39_0 v1)]⟩ (by generalize v1.1 = z0; cases z0 <;> kernel_rfl) ?_
    rcases brk_some h with ⟨r103, er103, h⟩ | ⟨y102, ey102, h⟩
    ·refine hLx101 _ 0  _ er103 n (by omega) (fun r er σ hσ => ?_) (fun y  ey => by cases ey)
     cases er
     refine seqQ.r ?_
     exact fnQ.r' (X39 n) (fun z => (eB z)) h hσ
    ·refine hLx101 _ 0  _ ey102 n (by omega) (fun r er => by cases er) (fun y  ey => ?_)
     cases ey
     refine seqQ.n ?_
     refine Wp.sq ?_
     refine Wp.rg ?_
     refine Ops.sg 1 1 ?_
     refine Ops.dn ?_
     refine seqQ.n ?_
     refine Wp.ret (by kernel_rfl) ?_
     exact fnQ.r' (X39 n) (fun z => (eB z)) h (RetOk.mk' (dB true) (by kernel_rfl) (by kernel_rfl))
  refine Ops.hv (fun KQ => ∀ v10 : Bool, f39_r4 m v1 (v10 || (decide ((v1.1.length : Int) > 30))) = some o → KQ 9 ⟨(.v (.str a0)) :: u1 ((dB false) :: (appD 0 (List.map eI v1.1)) :: (.ptr 1 0) :: u2 ((.tuple [(appD 0 (List.map eI v1.1)), (.v (.agg [(vI v1.2.fCode), (vI v1.2.fIndex)]))]) :: (.v (.str a0)) :: (.tuple [(appD 0 (List.map eI v1.1)), (.v (.agg [(vI v1.2.fCode), (vI v1.2.fIndex)]))]) :: (appD 0 (List.map eI v1.1)) :: (.v (.agg [(vI v1.2.fCode), (vI v1.2.fIndex)])) :: (.v (.agg [(vI v1.2.fCode), (vI v1.2.fIndex)])) :: (.v (.agg [(vI 0), (vI 0)])) :: (dB v7) :: (dB v7) :: d4 :: d5 :: d6 :: (dB v10) :: (dB v10) :: u27 [])), [(appO 1 (List.map eI v1.1)), (b39_0 v1)]⟩) ?_ fun G39g11 => Ops.st _ (by kernel_rfl) (G39g11 v8 h)
  intro v10 h
  cases v10
  ·refine Ops.sg 1 10 ?_
   refine Ops.on 11 (fun h0 e0 => (len_a (T := T) (g := .nil) h0 47 3 0 eI v1.1 (by kernel_rfl))) ?_
   refine Ops.sg 2 13 ?_
   exact Ops.st _ (by kernel_rfl) (J39j17 (appD 0 (List.map eI v1.1)) (dI (v1.1.length : Int)) (dB (decide ((v1.1.length : Int) > 30))) false (decide ((v1.1.length : Int) > 30)) h)
  ·refine Ops.sg 4 13 ?_
   exact Ops.st _ (by kernel_rfl) (J39j17 U U U true true h)
 refine Ops.hv (fun KQ => ∀ v2 : Bool, f39_r5 m v1 (v2 || (decide ((v1.1.length : Int) < 1))) = some o → KQ 4 ⟨(.v (.str a0)) :: u1 ((dB false) :: (appD 0 (List.map eI v1.1)) :: (.ptr 1 0) :: u2 ((.tuple [(appD 0 (List.map eI v1.1)), (.v (.agg [(vI v1.2.fCode), (vI v1.2.fIndex)]))]) :: (.v (.str a0)) :: (.tuple [(appD 0 (List.map eI v1.1)), (.v (.agg [(vI v1.2.fCode), (vI v1.2.fIndex)]))]) :: (appD 0 (List.map eI v1.1)) :: (.v (.agg [(vI v1.2.fCode), (vI v1.2.fIndex)])) :: (.v (.agg [(vI v1.2.fCode), (vI v1.2.fIndex)])) :: (.v (.agg [(vI 0), (vI 0)])) :: (dB v2) :: (dB v2) :: u32 [])), [(appO 1 (List.map eI v1.1)), (b39_0 v1)]⟩) ?_ fun G39g3 => Ops.st _ (by kernel_rfl) (G39g3 (!((v1.2.fCode == 0) && ((v1.2.fIndex == 0) && true))) h)
 intro v2 h
 cases v2
 ·refine Ops.sg 1 5 ?_
  refine Ops.on 6 (fun h0 e0 => (len_a (T := T) (g := .nil) h0 47 3 0 eI v1.1 (by kernel_rfl))) ?_
  refine Ops.sg 2 8 ?_
  exact Ops.st _ (by kernel_rfl) (J39j9 (appD 0 (List.map eI v1.1)) (dI (v1.1.length : Int)) (dB (decide ((v1.1.length : Int) < 1))) false (decide ((v1.1.length : Int) < 1)) h)
 ·refine Ops.sg 4 8 ?_
  exact Ops.st _ (by kernel_rfl) (J39j9 U U U true true h)
def f20_B1 (m : Nat) (v1 : S37) (v3 : (List S37)) (v7 : Int) : Option (Stp Int (Int)) :=
 cnd (decide (v7 < (v3.length : Int)))
 (bnd (idx v3 v7) fun v17 =>
 cnd (v17.fName.toList == v1.fName.toList)
 (some (.ret 7))
 (some (.nxt (w64 (v7 + 1)))))
 (some (.brk v7))
def f20_B2 (m : Nat) (v182 : S34) (v211 : Int) : Option (Stp Int (Int)) :=
 cnd (decide (v211 < (v182.fTags.length : Int)))
 (bnd (idx v182.fTags v211) fun v221 =>
 bnd (f38 m v221) fun v222 =>
 cnd (!v222)
 (some (.ret 10))
 (some (.nxt (w64 (v211 + 1)))))
 (some (.brk v211))
def f20_r3 (m : Nat) (v172 : Int) (v251 : Bool) : Option (Stp Int (Int)) :=
 cnd v251
 (some (.ret 3))
 (some (.nxt (w64 (v172 + 1))))
def f20_r4 (m : Nat) (v172 : Int) (v182 : S34) (v243 : Bool) : Option (Stp Int (Int)) :=
 f20_r3 m v172 (v243 || (decide (v182.fWeight > 1000000)))
def f20_r5 (m : Nat) (v172 : Int) (v182 : S34) (v235 : Bool) : Option (Stp Int (Int)) :=
 f20_r4 m v172 v182 (v235 || (decide (v182.fWeight < 0)))
def f20_r6 (m : Nat) (a0 : S23) (v172 : Int) (v182 : S34) (v204 : Bool) : Option (Stp Int (Int)) :=
 cnd v204
 (some (.ret 5))
 (cnd (decide ((v182.fTags.length : Int) > 4))
 (some (.ret 2))
 (brk (iter (fun (y : Int) => f20_B2 m v182 y) m 0) (fun r => some (.ret r)) fun y224 =>
 f20_r5 m v172 v182 ((decide (v182.fNext < (-1))) || (decide (v182.fNext ≥ (a0.fClasses.length : Int))))))
def f20_r7 (m : Nat) (a0 : S23) (v172 : Int) (v182 : S34) (v190 : Bool) : Option (Stp Int (Int)) :=
 bnd (cnd v190
 (some true)
 (cnd (!(v182.fForm.toList == (⟨#[]⟩ : ByteArray).toList))
 (bnd (f39 m v182.fForm) fun v255 =>
 some (!v255))
 (some false))) fun v204 =>
 f20_r6 m a0 v172 v182 v204
def f20_B8 (m : Nat) (a0 : S23) (v1 : S37) (v172 : Int) : Option (Stp Int (Int)) :=
 cnd (decide (v172 < (v1.fItems.length : Int)))
 (bnd (idx v1.fItems v172) fun v182 =>
 bnd (cnd (!(v182.fBase.toList == (⟨#[]⟩ : ByteArray).toList))
 (bnd (f39 m v182.fBase) fun v256 =>
 some (!v256))
 (some false)) fun v190 =>
 f20_r7 m a0 v172 v182 v190)
 (some (.brk v172))
def f20 (m : Nat) (a0 : S23) (a1 : Int) : Option Int :=
 bnd (idx a0.fClasses a1) fun v1 =>
 bnd (f38 m v1.fName) fun v2 =>
 cnd (!v2)
 (some 10)
 (bnd (sub a0.fClasses 0 a1) fun v3 =>
 brk (iter (fun (y : Int) => f20_B1 m v1 v3 y) m 0) some fun y19 =>
 cnd (decide ((v1.fItems.length : Int) > 100))
 (some 2)
 (brk (iter (fun (y : Int) => f20_B8 m a0 v1 y) m 0) some fun y258 =>
 some 0))
noncomputable abbrev X20 (n : Nat) : Cx := cxOf Proofs.Tryd.prog EG 20 n
noncomputable def C20 : Code := bodyOf Proofs.Tryd.prog 20
noncomputable abbrev p20_0 : Code := cR (cR (cR (cR (cR (cR C20)))))
noncomputable abbrev p20_1 : Code := cL (cL (cR (cL (cR (cR (cR (cR (cR C20))))))))
noncomputable abbrev p20_2 : Code := cR (cR (cR p20_1))
noncomputable abbrev p20_3 : Code := cR (cR (cR (cR (cL (cL (cR (cR p20_1)))))))
noncomputable abbrev p20_4 : Code := cL (cL (cR (cL (cR (cR (cR (cL (cL (cR (cR p20_1))))))))))
abbrev b20_0 (w0 : S23) : AObj := .cells [(dP e37 w0.fClasses)]
abbrev b20_1 (w0 : S37) : AObj := .cells [(.v (.str w0.fName)), (dP e34 w0.fItems)]
abbrev b20_2 (w0 : S34) : AObj := .cells [(.v (.str w0.fBase)), (.v (.str w0.fForm)), (dP eS w0.fTags), (dI w0.fNext), (dI w0.fWeight)]
abbrev k20_0 : List Nat := [2, 4, 5, 24, 25, 26]
abbrev k20_1 : List Nat := [2, 4, 41, 42, 43]
abbrev k20_2 : List Nat := [2, 4, 9, 41, 42, 43, 72, 73, 74]
theorem ok20 (m : Nat) (a0 : S23) (a1 : Int) (o : Int) (h : f20 m a0 a1 = some o) (n : Nat) (hn : m + 4 ≤ n) : Fn Proofs.Tryd.prog EG n 20 [.v (e23 a0), .v (eI a1)] (eI o) := by
 obtain ⟨n, rfl⟩ : ∃ q, n = q + 1 := ⟨n - 1, by omega⟩
 unfold f20 at h
 refine Fn.of (by kernel_rfl) (by kernel_rfl) (by kernel_rfl) ⟨(.v (.agg [(vP e37 a0.fClasses)])) :: (dI a1) :: u40 (u40 (u22 [])), []⟩ (by kernel_rfl) ?_
 refine Wp.sq ?_
 refine Wp.rg ?_
 refine Ops.sg 2 2 ?_
 refine Ops.dn ?_
 refine seqQ.n ?_
 refine Wp.sq ?_
 refine Wp.rg ?_
 refine Ops.sg 3 3 ?_
 obtain ⟨v1, ev1, h⟩ := bnd_some h
 refine Ops.on 4 (fun h0 e0 => (ix_r (T := T) h0 22 38 2 .plain e37 a0.fClasses a1 v1 ev1 (by kernel_rfl) (by kernel_rfl) (fun _ => rfl))) ?_
 refine Ops.sg 3 7 ?_
 refine Ops.dn ?_
 refine seqQ.n ?_
 refine Wp.sq ?_
 refine Wp.sq ?_
 refine Wp.rg ?_
 refine Ops.sg 2 2 ?_
 obtain ⟨v2, ev2, h⟩ := bnd_some h
 refine Ops.on 3 (fun h0 e0 => (call_ok (E' := EG) (h := h0) (by kernel_rfl) (Args.v (.str v1.fName) (eS v1.fName) (by kernel_rfl) Args.nil) (ok38 m v1.fName v2 ev2 n (by omega)))) ?_
 refine Ops.sg 1 4 ?_
 refine Ops.dn ?_
 refine seqQ.n ?_
 refine Wp.cnd h [1, 2, 4, 5] 2 (by kernel_rfl) (fun h => ?_) (fun h => ?_)
 ·refine Wp.sq ?_
  refine Wp.rg ?_
  refine Ops.sg 1 1 ?_
  refine Ops.dn ?_
  refine seqQ.n ?_
  refine Wp.ret (by kernel_rfl) ?_
  refine sqQ.r ?_
  refine seqQ.r ?_
  exact fnQ.r' (X20 n) (fun z => (eI z)) h (RetOk.mk' (dI 10) (by kernel_rfl) (by kernel_rfl))
 ·refine Wp.sk ?_
  refine sqQ.n' ?_
  refine seqQ.n ?_
  refine Wp.sq ?_
  refine Wp.sq ?_
  refine Wp.rg ?_
  refine Ops.sg 3 3 ?_
  obtain ⟨v3, ev3, h⟩ := bnd_some h
  refine Ops.on 4 (fun h0 e0 => (sub_r (T := T) h0 22 38 2 .plain e37 a0.fClasses v3 none (some a1) rfl ev3 (by kernel_rfl) (by kernel_rfl) (fun _ => rfl))) ?_
  refine Ops.on 5 (fun h0 e0 => (len_r (T := T) h0 22 38 .plain e37 v3 (by kernel_rfl))) ?_
  refine Ops.sg 1 6 ?_
  refine Ops.dn ?_
  refine seqQ.n ?_
  refine Wp.block' 0 [2, 4, 5] 2 (by kernel_rfl) ?_
  have hLx18 : ∀ (kx9 : Nat) (v7 : Int)  (ox8 : Int ⊕ (Int)), iter (fun (y : Int) => f20_B1 m v1 v3 y) kx9 v7 = some ox8 → ∀ nx10, kx9 ≤ nx10 → (∀ r, ox8 = .inl r → ∀ σ, RetOk (X20 n) (resOf Proofs.Tryd.prog 20) (eI r) σ → (seqQ (X20 n) (cR (cR (cR (cR C20)))) (fnQ (X20 n).E.T (resOf Proofs.Tryd.prog 20) (eI o))) .ret σ) → (∀ (y : Int) , ox8 = .inr y → (seqQ (X20 n) (cR (cR (cR (cR C20)))) (fnQ (X20 n).E.T (resOf Proofs.Tryd.prog 20) (eI o))) .normal ⟨q2 ((.ptr 0 0) :: q1 ((dI 0) :: (.ptr 1 0) :: q18 ((dP e37 v3) :: (dI (v3.length : Int)) :: (dI y) :: q40 (q37 [])))), [(b20_0 a0), (b20_1 v1)]⟩) → Lp (X20 n) k20_0 2 (cL (cL (cR (cL (cR (cR (cR C20))))))) nx10 ⟨q2 ((.ptr 0 0) :: q1 ((dI 0) :: (.ptr 1 0) :: q18 ((dP e37 v3) :: (dI (v3.length : Int)) :: (dI v7) :: q40 (q37 [])))), [(b20_0 a0), (b20_1 v1)]⟩ (blkQ (X20 n) 0 [2, 4, 5] 2 (seqQ (X20 n) (cR (cR (cR (cR C20)))) (fnQ (X20 n).E.T (resOf Proofs.Tryd.prog 20) (eI o)))) := by
   intro kx9
   induction kx9 with
   | zero => intro v7  ox8 h; exact (iter_zero h).elim
   | succ kx9 ihx11 =>
    intro v7  ox8 h nx10 hnx14 hrx12 hxx13
    obtain ⟨nx10, rfl⟩ : ∃ q, nx10 = q + 1 := ⟨nx10 - 1, by omega⟩
    obtain ⟨sx15, h, hsx16⟩ := iter_some h
    have h : f20_B1 m v1 v3 v7 = some sx15 := h
    unfold f20_B1 at h
    refine Lp.succ ?_
    refine Wp.sq ?_
    refine Wp.rg ?_
    refine Ops.sg 1 1 ?_
    refine Ops.dn ?_
    refine seqQ.n ?_
    refine Wp.sq ?_
    refine Wp.cnd h k20_0 2 (by kernel_rfl) (fun h => ?_) (fun h => ?_)
    ·refine Wp.sk ?_
     refine sqQ.n' ?_
     refine seqQ.n ?_
     refine Wp.sq ?_
     refine Wp.block' 1 k20_0 2 (by kernel_rfl) ?_
     refine Wp.sq ?_
     refine Wp.rg ?_
     obtain ⟨v17, ev17, h⟩ := bnd_some h
     refine Ops.on 1 (fun h0 e0 => (ix_r (T := T) h0 22 38 2 .plain e37 v3 v7 v17 ev17 (by kernel_rfl) (by kernel_rfl) (fun _ => rfl))) ?_
     refine Ops.sg 3 4 ?_
     refine Ops.dn ?_
     refine seqQ.n ?_
     refine Wp.sq ?_
     refine Wp.rg ?_
     refine Ops.sg 5 5 ?_
     refine Ops.dn ?_
     refine seqQ.n ?_
     refine Wp.cnd h k20_0 3 (by kernel_rfl) (fun h => ?_) (fun h => ?_)
     ·refine Wp.sq ?_
      refine Wp.rg ?_
      refine Ops.sg 1 1 ?_
      refine Ops.dn ?_
      refine seqQ.n ?_
      refine Wp.ret (by kernel_rfl) ?_
      refine sqQ.r ?_
      refine blkQ.r ?_
      refine seqQ.r ?_
      cases h
      refine lpQ.r ?_
      refine blkQ.r ?_
      exact hrx12 _ hsx16 _ (RetOk.forget k20_0 (by kernel_rfl) (RetOk.mk' (dI 7) (by kernel_rfl) (by kernel_rfl)))
     ·refine Wp.sk ?_
      refine sqQ.n' ?_
      refine blkQ.n' ?_
      refine seqQ.n ?_
      refine Wp.rg ?_
      refine Ops.sg 2 2 ?_
      refine Ops.dn ?_
      refine lpQ.n ⟨q2 ((.ptr 0 0) :: q1 ((dI 0) :: (.ptr 1 0) :: q18 ((dP e37 v3) :: (dI (v3.length : Int)) :: (dI (w64 (v7 + 1))) :: q40 (q37 [])))), [(b20_0 a0), (b20_1 v1)]⟩ (by kernel_rfl) ?_
      cases h
      exact ihx11 (w64 (v7 + 1))  _ hsx16 _ (by omega) hrx12 hxx13
    ·refine Wp.exit (id := 0) (by kernel_rfl) ?_
     refine sqQ.x ?_
     refine seqQ.x ?_
     cases h
     refine lpQ.x ?_
     refine blkQ.x ⟨q2 ((.ptr 0 0) :: q1 ((dI 0) :: (.ptr 1 0) :: q18 ((dP e37 v3) :: (dI (v3.length : Int)) :: (dI v7) :: q40 (q37 [])))), [(b20_0 a0), (b20_1 v1)]⟩ (by kernel_rfl) ?_
     exact hxx13 v7  hsx16
  refine Wp.loop' k20_0 2 (by kernel_rfl) ⟨q2 ((.ptr 0 0) :: q1 ((dI 0) :: (.ptr 1 0) :: q18 ((dP e37 v3) :: (dI (v3.length : Int)) :: (dI 0) :: q40 (q37 [])))), [(b20_0 a0), (b20_1 v1)]⟩ (by kernel_rfl) ?_
  rcases brk_some h with ⟨r20, er20, h⟩ | ⟨y19, ey19, h⟩
  ·refine hLx18 _ 0  _ er20 n (by omega) (fun r er σ hσ => ?_) (fun y  ey => by cases ey)
   cases er
   refine seqQ.r ?_
   exact fnQ.r' (X20 n) (fun z => (eI z)) h hσ
  ·refine hLx18 _ 0  _ ey19 n (by omega) (fun r er => by cases er) (fun y  ey => ?_)
   cases ey
   refine seqQ.n ?_
   refine Wp.sq ?_
   refine Wp.sq ?_
   refine Wp.rg ?_
   refine Ops.sg 2 2 ?_
   refine Ops.on 3 (fun h0 e0 => (len_r (T := T) h0 36 35 .plain e34 v1.fItems (by kernel_rfl))) ?_
   refine Ops.sg 1 4 ?_
   refine Ops.dn ?_
   refine seqQ.n ?_
   refine Wp.cnd h [2, 4, 5] 2 (by kernel_rfl) (fun h => ?_) (fun h => ?_)
   ·refine Wp.sq ?_
    refine Wp.rg ?_
    refine Ops.sg 1 1 ?_
    refine Ops.dn ?_
    refine seqQ.n ?_
    refine Wp.ret (by kernel_rfl) ?_
    refine sqQ.r ?_
    refine seqQ.r ?_
    exact fnQ.r' (X20 n) (fun z => (eI z)) h (RetOk.mk' (dI 2) (by kernel_rfl) (by kernel_rfl))
   ·refine Wp.sk ?_
    refine sqQ.n' ?_
    refine seqQ.n ?_
    refine Wp.sq ?_
    refine Wp.sq ?_
    refine Wp.rg ?_
    refine Ops.sg 2 2 ?_
    refine Ops.on 3 (fun h0 e0 => (len_r (T := T) h0 36 35 .plain e34 v1.fItems (by kernel_rfl))) ?_
    refine Ops.sg 1 4 ?_
    refine Ops.dn ?_
    refine seqQ.n ?_
    refine Wp.block' 2 [4] 2 (by kernel_rfl) ?_
    have hLx257 : ∀ (kx174 : Nat) (v172 : Int)  (ox173 : Int ⊕ (Int)), iter (fun (y : Int) => f20_B8 m a0 v1 y) kx174 v172 = some ox173 → ∀ nx175, kx174 ≤ nx175 → (∀ r, ox173 = .inl r → ∀ σ, RetOk (X20 n) (resOf Proofs.Tryd.prog 20) (eI r) σ → (seqQ (X20 n) p20_0 (fnQ (X20 n).E.T (resOf Proofs.Tryd.prog 20) (eI o))) .ret σ) → (∀ (y : Int) , ox173 = .inr y → (seqQ (X20 n) p20_0 (fnQ (X20 n).E.T (resOf Proofs.Tryd.prog 20) (eI o))) .normal ⟨q2 ((.ptr 0 0) :: q1 ((dI 0) :: q36 ((dP e34 v1.fItems) :: (dI (v1.fItems.length : Int)) :: (dI y) :: q40 (q20 [])))), [(b20_0 a0), (b20_1 v1)]⟩) → Lp (X20 n) k20_1 2 p20_1 nx175 ⟨q2 ((.ptr 0 0) :: q1 ((dI 0) :: q36 ((dP e34 v1.fItems) :: (dI (v1.fItems.length : Int)) :: (dI v172) :: q40 (q20 [])))), [(b20_0 a0), (b20_1 v1)]⟩ (blkQ (X20 n) 2 [4] 2 (seqQ (X20 n) p20_0 (fnQ (X20 n).E.T (resOf Proofs.Tryd.prog 20) (eI o)))) := by
     intro kx174
     induction kx174 with
     | zero => intro v172  ox173 h; exact (iter_zero h).elim
     | succ kx174 ihx176 =>
      intro v172  ox173 h nx175 hnx179 hrx177 hxx178
      obtain ⟨nx175, rfl⟩ : ∃ q, nx175 = q + 1 := ⟨nx175 - 1, by omega⟩
      obtain ⟨sx180, h, hsx181⟩ := iter_some h
      have h : f20_B8 m a0 v1 v172 = some sx180 := h
      unfold f20_B8 at h
      refine Lp.succ ?_
      refine Wp.sq ?_
      refine Wp.rg ?_
      refine Ops.sg 1 1 ?_
      refine Ops.dn ?_
      refine seqQ.n ?_
      refine Wp.sq ?_
      refine Wp.cnd h k20_1 2 (by kernel_rfl) (fun h => ?_) (fun h => ?_)
      ·refine Wp.sk ?_
       refine sqQ.n' ?_
       refine seqQ.n ?_
       refine Wp.sq ?_
       refine Wp.block' 3 k20_1 2 (by kernel_rfl) ?_
       refine Wp.sq ?_
       refine Wp.rg ?_
       obtain ⟨v182, ev182, h⟩ := bnd_some h
       refine Ops.on 1 (fun h0 e0 => (ix_r (T := T) h0 36 35 5 .plain e34 v1.fItems v172 v182 ev182 (by kernel_rfl) (by kernel_rfl) (fun _ => rfl))) ?_
       refine Ops.sg 3 4 ?_
       refine Ops.dn ?_
       refine seqQ.n ?_
       refine Wp.sq ?_
       refine Wp.sq ?_
       refine Wp.rg ?_
       refine Ops.sg 4 4 ?_
       refine Ops.hv (fun KQ => ∀ (d185 d186 d187 d188 : D) (v189 : Bool) (v190 : Bool), f20_r7 m a0 v172 v182 v190 = some sx180 → KQ 9 ⟨q2 ((.ptr 0 0) :: q1 ((dI 0) :: q4 ((.ptr 2 0) :: q31 ((dP e34 v1.fItems) :: (dI (v1.fItems.length : Int)) :: (dI v172) :: (dB (decide (v172 < (v1.fItems.length : Int)))) :: (.vptr [(.str v182.fBase), (.str v182.fForm), (vP eS v182.fTags), (vI v182.fNext), (vI v182.fWeight)]) :: (.v (.agg [(.str v182.fBase), (.str v182.fForm), (vP eS v182.fTags), (vI v182.fNext), (vI v182.fWeight)])) :: (.ptr 2 0) :: (.v (.str v182.fBase)) :: (dB v189) :: (dB v189) :: d185 :: d186 :: d187 :: d188 :: (dB v190) :: q40 (q8 []))))), [(b20_0 a0), (b20_1 v1), (b20_2 v182)]⟩) ?_ fun J20j191 => ?_
       ·intro d185 d186 d187 d188 v189 v190 h
        unfold f20_r7 at h
        refine Ops.sg 1 10 ?_
        refine Ops.hv (fun KQ => ∀ (d194 d195 d196 d197 d198 d199 d200 d201 d202 : D) (v203 : Bool) (v204 : Bool), f20_r6 m a0 v172 v182 v204 = some sx180 → KQ 20 ⟨q2 ((.ptr 0 0) :: q1 ((dI 0) :: q4 ((.ptr 2 0) :: q31 ((dP e34 v1.fItems) :: (dI (v1.fItems.length : Int)) :: (dI v172) :: (dB (decide (v172 < (v1.fItems.length : Int)))) :: (.vptr [(.str v182.fBase), (.str v182.fForm), (vP eS v182.fTags), (vI v182.fNext), (vI v182.fWeight)]) :: (.v (.agg [(.str v182.fBase), (.str v182.fForm), (vP eS v182.fTags), (vI v182.fNext), (vI v182.fWeight)])) :: (.ptr 2 0) :: (.v (.str v182.fBase)) :: (dB v189) :: (dB v189) :: d185 :: d186 :: d187 :: d188 :: (dB v203) :: (dB v203) :: d194 :: d195 :: d196 :: d197 :: d198 :: d199 :: d200 :: d201 :: d202 :: (dB v204) :: q37 [])))), [(b20_0 a0), (b20_1 v1), (b20_2 v182)]⟩) ?_ fun J20j205 => ?_
        ·intro d194 d195 d196 d197 d198 d199 d200 d201 d202 v203 v204 h
         unfold f20_r6 at h
         refine Ops.dn ?_
         refine seqQ.n ?_
         refine Wp.cnd h [2, 4, 9, 41, 42, 43] 3 (by kernel_rfl) (fun h => ?_) (fun h => ?_)
         ·refine Wp.sq ?_
          refine Wp.rg ?_
          refine Ops.sg 1 1 ?_
          refine Ops.dn ?_
          refine seqQ.n ?_
          refine Wp.ret (by kernel_rfl) ?_
          refine sqQ.r ?_
          refine seqQ.r ?_
          refine blkQ.r ?_
          refine seqQ.r ?_
          cases h
          refine lpQ.r ?_
          refine blkQ.r ?_
          exact hrx177 _ hsx181 _ (RetOk.forget k20_1 (by kernel_rfl) (RetOk.mk' (dI 5) (by kernel_rfl) (by kernel_rfl)))
         ·refine Wp.sk ?_
          refine sqQ.n' ?_
          refine seqQ.n ?_
          refine Wp.sq ?_
          refine Wp.sq ?_
          refine Wp.rg ?_
          refine Ops.sg 2 2 ?_
          refine Ops.on 3 (fun h0 e0 => (len_r (T := T) h0 33 9 .plain eS v182.fTags (by kernel_rfl))) ?_
          refine Ops.sg 1 4 ?_
          refine Ops.dn ?_
          refine seqQ.n ?_
          refine Wp.cnd h [2, 4, 9, 41, 42, 43] 3 (by kernel_rfl) (fun h => ?_) (fun h => ?_)
          ·refine Wp.sq ?_
           refine Wp.rg ?_
           refine Ops.sg 1 1 ?_
           refine Ops.dn ?_
           refine seqQ.n ?_
           refine Wp.ret (by kernel_rfl) ?_
           refine sqQ.r ?_
           refine seqQ.r ?_
           refine blkQ.r ?_
           refine seqQ.r ?_
           cases h
           refine lpQ.r ?_
           refine blkQ.r ?_
           exact hrx177 _ hsx181 _ (RetOk.forget k20_1 (by kernel_rfl) (RetOk.mk' (dI 2) (by kernel_rfl) (by kernel_rfl)))
          ·refine Wp.sk ?_
           refine sqQ.n' ?_
           refine seqQ.n ?_
           refine Wp.sq ?_
           refine Wp.sq ?_
           refine Wp.rg ?_
           refine Ops.sg 2 2 ?_
           refine Ops.on 3 (fun h0 e0 => (len_r (T := T) h0 33 9 .plain eS v182.fTags (by kernel_rfl))) ?_
           refine Ops.sg 1 4 ?_
           refine Ops.dn ?_
           refine seqQ.n ?_
           refine Wp.block' 4 [2, 4, 9, 41, 42, 43] 3 (by kernel_rfl) ?_
           have hLx223 : ∀ (kx213 : Nat) (v211 : Int)  (ox212 : Int ⊕ (Int)), iter (fun (y : Int) => f20_B2 m v182 y) kx213 v211 = some ox212 → ∀ nx214, kx213 ≤ nx214 → (∀ r, ox212 = .inl r → ∀ σ, RetOk (X20 n) (resOf Proofs.Tryd.prog 20) (eI r) σ → (seqQ (X20 n) p20_3 (blkQ (X20 n) 3 k20_1 2 (seqQ (X20 n) p20_2 (lpQ (X20 n) k20_1 2 p20_1 nx175 (blkQ (X20 n) 2 [4] 2 (seqQ (X20 n) p20_0 (fnQ (X20 n).E.T (resOf Proofs.Tryd.prog 20) (eI o)))))))) .ret σ) → (∀ (y : Int) , ox212 = .inr y → (seqQ (X20 n) p20_3 (blkQ (X20 n) 3 k20_1 2 (seqQ (X20 n) p20_2 (lpQ (X20 n) k20_1 2 p20_1 nx175 (blkQ (X20 n) 2 [4] 2 (seqQ (X20 n) p20_0 (fnQ (X20 n).E.T (resOf Proofs.Tryd.prog 20) (eI o)))))))) .normal ⟨q2 ((.ptr 0 0) :: q1 ((dI 0) :: q4 ((.ptr 2 0) :: q31 ((dP e34 v1.fItems) :: (dI (v1.fItems.length : Int)) :: (dI v172) :: q28 ((dP eS v182.fTags) :: (dI (v182.fTags.length : Int)) :: (dI y) :: q29 []))))), [(b20_0 a0), (b20_1 v1), (b20_2 v182)]⟩) → Lp (X20 n) k20_2 3 p20_4 nx214 ⟨q2 ((.ptr 0 0) :: q1 ((dI 0) :: q4 ((.ptr 2 0) :: q31 ((dP e34 v1.fItems) :: (dI (v1.fItems.length : Int)) :: (dI v172) :: q28 ((dP eS v182.fTags) :: (dI (v182.fTags.length : Int)) :: (dI v211) :: q29 []))))), [(b20_0 a0), (b20_1 v1), (b20_2 v182)]⟩ (blkQ (X20 n) 4 [2, 4, 9, 41, 42, 43] 3 (seqQ (X20 n) p20_3 (blkQ (X20 n) 3 k20_1 2 (seqQ (X20 n) p20_2 (lpQ (X20 n) k20_1 2 p20_1 nx175 (blkQ (X20 n) 2 [4] 2 (seqQ (X20 n) p20_0 (fnQ (X20 n).E.T (resOf Proofs.Tryd.prog 20) (eI o))))))))) := by
            intro kx213
            induction kx213 with
            | zero => intro v211  ox212 h; exact (iter_zero h).elim
            | succ kx213 ihx215 =>
             intro v211  ox212 h nx214 hnx218 hrx216 hxx217
             obtain ⟨nx214, rfl⟩ : ∃ q, nx214 = q + 1 := ⟨nx214 - 1, by omega⟩
             obtain ⟨sx219, h, hsx220⟩ := iter_some h
             have h : f20_B2 m v182 v211 = some sx219 := h
             unfold f20_B2 at h
             refine Lp.succ ?_
             refine Wp.sq ?_
             refine Wp.rg ?_
             refine Ops.sg 1 1 ?_
             refine Ops.dn ?_
             refine seqQ.n ?_
             refine Wp.sq ?_
             refine Wp.cnd h k20_2 3 (by kernel_rfl) (fun h => ?_) (fun h => ?_)
             ·refine Wp.sk ?_
              refine sqQ.n' ?_
              refine seqQ.n ?_
              refine Wp.sq ?_
              refine Wp.block' 5 k20_2 3 (by kernel_rfl) ?_
              refine Wp.sq ?_
              refine Wp.rg ?_
              obtain ⟨v221, ev221, h⟩ := bnd_some h
              refine Ops.on 1 (fun h0 e0 => (ix_r (T := T) h0 33 9 1 .plain eS v182.fTags v211 v221 ev221 (by kernel_rfl) (by kernel_rfl) (fun _ => rfl))) ?_
              refine Ops.sg 2 3 ?_
              refine Ops.dn ?_
              refine seqQ.n ?_
              refine Wp.sq ?_
              refine Wp.rg ?_
              refine Ops.sg 1 1 ?_
              obtain ⟨v222, ev222, h⟩ := bnd_some h
              refine Ops.on 2 (fun h0 e0 => (call_ok (E' := EG) (h := h0) (by kernel_rfl) (Args.v (.str v221) (eS v221) (by kernel_rfl) Args.nil) (ok38 m v221 v222 ev222 n (by omega)))) ?_
              refine Ops.sg 1 3 ?_
              refine Ops.dn ?_
              refine seqQ.n ?_
              refine Wp.cnd h k20_2 3 (by kernel_rfl) (fun h => ?_) (fun h => ?_)
              ·refine Wp.sq ?_
               refine Wp.rg ?_
               refine Ops.sg 1 1 ?_
               refine Ops.dn ?_
               refine seqQ.n ?_
               refine Wp.ret (by kernel_rfl) ?_
               refine sqQ.r ?_
               refine blkQ.r ?_
               refine seqQ.r ?_
               cases h
               refine lpQ.r ?_
               refine blkQ.r ?_
               exact hrx216 _ hsx220 _ (RetOk.forget k20_2 (by kernel_rfl) (RetOk.mk' (dI 10) (by kernel_rfl) (by kernel_rfl)))
              ·refine Wp.sk ?_
               refine sqQ.n' ?_
               refine blkQ.n' ?_
               refine seqQ.n ?_
               refine Wp.rg ?_
               refine Ops.sg 2 2 ?_
               refine Ops.dn ?_
               refine lpQ.n ⟨q2 ((.ptr 0 0) :: q1 ((dI 0) :: q4 ((.ptr 2 0) :: q31 ((dP e34 v1.fItems) :: (dI (v1.fItems.length : Int)) :: (dI v172) :: q28 ((dP eS v182.fTags) :: (dI (v182.fTags.length : Int)) :: (dI (w64 (v211 + 1))) :: q29 []))))), [(b20_0 a0), (b20_1 v1), (b20_2 v182)]⟩ (by kernel_rfl) ?_
               cases h
               exact ihx215 (w64 (v211 + 1))  _ hsx220 _ (by omega) hrx216 hxx217
             ·refine Wp.exit (id := 4) (by kernel_rfl) ?_
              refine sqQ.x ?_
              refine seqQ.x ?_
              cases h
              refine lpQ.x ?_
              refine blkQ.x ⟨q2 ((.ptr 0 0) :: q1 ((dI 0) :: q4 ((.ptr 2 0) :: q31 ((dP e34 v1.fItems) :: (dI (v1.fItems.length : Int)) :: (dI v172) :: q28 ((dP eS v182.fTags) :: (dI (v182.fTags.length : Int)) :: (dI v211) :: q29 []))))), [(b20_0 a0), (b20_1 v1), (b20_2 v182)]⟩ (by kernel_rfl) ?_
              exact hxx217 v211  hsx220
           refine Wp.loop' k20_2 3 (by kernel_rfl) ⟨q2 ((.ptr 0 0) :: q1 ((dI 0) :: q4 ((.ptr 2 0) :: q31 ((dP e34 v1.fItems) :: (dI (v1.fItems.length : Int)) :: (dI v172) :: q28 ((dP eS v182.fTags) :: (dI (v182.fTags.length : Int)) :: (dI 0) :: q29 []))))), [(b20_0 a0), (b20_1 v1), (b20_2 v182)]⟩ (by kernel_rfl) ?_
           rcases brk_some h with ⟨r225, er225, h⟩ | ⟨y224, ey224, h⟩
           ·refine hLx223 _ 0  _ er225 n (by omega) (fun r er σ hσ => ?_) (fun y  ey => by cases ey)
            cases er
            refine seqQ.r ?_
            refine blkQ.r ?_
            refine seqQ.r ?_
            refine lpQ.r ?_
            cases h
            refine blkQ.r ?_
            exact hrx177 _ hsx181 _ (RetOk.forget k20_1 (by kernel_rfl) hσ)
           ·refine hLx223 _ 0  _ ey224 n (by omega) (fun r er => by cases er) (fun y  ey => ?_)
            cases ey
            refine seqQ.n ?_
            refine Wp.sq ?_
            refine Wp.rg ?_
            refine Ops.sg 4 4 ?_
            refine Ops.hv (fun KQ => ∀ (d228 d229 d230 d231 d232 d233 : D) (v234 : Bool) (v235 : Bool), f20_r5 m v172 v182 v235 = some sx180 → KQ 11 ⟨q2 ((.ptr 0 0) :: q1 ((dI 0) :: q4 ((.ptr 2 0) :: q31 ((dP e34 v1.fItems) :: (dI (v1.fItems.length : Int)) :: (dI v172) :: q28 ((dP eS v182.fTags) :: (dI (v182.fTags.length : Int)) :: (dI y224) :: q7 ((.ptr 2 3) :: (dI v182.fNext) :: (dB v234) :: (dB v234) :: d228 :: d229 :: d230 :: d231 :: d232 :: d233 :: (dB v235) :: q11 [])))))), [(b20_0 a0), (b20_1 v1), (b20_2 v182)]⟩) ?_ fun J20j236 => ?_
            ·intro d228 d229 d230 d231 d232 d233 v234 v235 h
             unfold f20_r5 at h
             refine Ops.sg 1 12 ?_
             refine Ops.hv (fun KQ => ∀ (d239 d240 d241 : D) (v242 : Bool) (v243 : Bool), f20_r4 m v172 v182 v243 = some sx180 → KQ 16 ⟨q2 ((.ptr 0 0) :: q1 ((dI 0) :: q4 ((.ptr 2 0) :: q31 ((dP e34 v1.fItems) :: (dI (v1.fItems.length : Int)) :: (dI v172) :: q28 ((dP eS v182.fTags) :: (dI (v182.fTags.length : Int)) :: (dI y224) :: q7 ((.ptr 2 3) :: (dI v182.fNext) :: (dB v234) :: (dB v234) :: d228 :: d229 :: d230 :: d231 :: d232 :: d233 :: (dB v242) :: (dB v242) :: d239 :: d240 :: d241 :: (dB v243) :: q6 [])))))), [(b20_0 a0), (b20_1 v1), (b20_2 v182)]⟩) ?_ fun J20j244 => ?_
             ·intro d239 d240 d241 v242 v243 h
              unfold f20_r4 at h
              refine Ops.sg 1 17 ?_
              refine Ops.hv (fun KQ => ∀ (d247 d248 d249 : D) (v250 : Bool) (v251 : Bool), f20_r3 m v172 v251 = some sx180 → KQ 21 ⟨q2 ((.ptr 0 0) :: q1 ((dI 0) :: q4 ((.ptr 2 0) :: q31 ((dP e34 v1.fItems) :: (dI (v1.fItems.length : Int)) :: (dI v172) :: q28 ((dP eS v182.fTags) :: (dI (v182.fTags.length : Int)) :: (dI y224) :: q7 ((.ptr 2 3) :: (dI v182.fNext) :: (dB v234) :: (dB v234) :: d228 :: d229 :: d230 :: d231 :: d232 :: d233 :: (dB v242) :: (dB v242) :: d239 :: d240 :: d241 :: (dB v250) :: (dB v250) :: d247 :: d248 :: d249 :: (dB v251) :: q1 [])))))), [(b20_0 a0), (b20_1 v1), (b20_2 v182)]⟩) ?_ fun J20j252 => ?_
              ·intro d247 d248 d249 v250 v251 h
               unfold f20_r3 at h
               refine Ops.dn ?_
               refine seqQ.n ?_
               refine Wp.cnd h k20_1 3 (by kernel_rfl) (fun h => ?_) (fun h => ?_)
               ·refine Wp.sq ?_
                refine Wp.rg ?_
                refine Ops.sg 1 1 ?_
                refine Ops.dn ?_
                refine seqQ.n ?_
                refine Wp.ret (by kernel_rfl) ?_
                refine sqQ.r ?_
                refine blkQ.r ?_
                refine seqQ.r ?_
                cases h
                refine lpQ.r ?_
                refine blkQ.r ?_
                exact hrx177 _ hsx181 _ (RetOk.forget k20_1 (by kernel_rfl) (RetOk.mk' (dI 3) (by kernel_rfl) (by kernel_rfl)))
               ·refine Wp.sk ?_
                refine sqQ.n' ?_
                refine blkQ.n' ?_
                refine seqQ.n ?_
                refine Wp.rg ?_
                refine Ops.sg 2 2 ?_
                refine Ops.dn ?_
                refine lpQ.n ⟨q2 ((.ptr 0 0) :: q1 ((dI 0) :: q36 ((dP e34 v1.fItems) :: (dI (v1.fItems.length : Int)) :: (dI (w64 (v172 + 1))) :: q40 (q20 [])))), [(b20_0 a0), (b20_1 v1)]⟩ (by kernel_rfl) ?_
                cases h
                exact ihx176 (w64 (v172 + 1))  _ hsx181 _ (by omega) hrx177 hxx178
              refine Ops.hv (fun KQ => ∀ v245 : Bool, f20_r3 m v172 (v245 || (decide (v182.fWeight > 1000000))) = some sx180 → KQ 17 ⟨q2 ((.ptr 0 0) :: q1 ((dI 0) :: q4 ((.ptr 2 0) :: q31 ((dP e34 v1.fItems) :: (dI (v1.fItems.length : Int)) :: (dI v172) :: q28 ((dP eS v182.fTags) :: (dI (v182.fTags.length : Int)) :: (dI y224) :: q7 ((.ptr 2 3) :: (dI v182.fNext) :: (dB v234) :: (dB v234) :: d228 :: d229 :: d230 :: d231 :: d232 :: d233 :: (dB v242) :: (dB v242) :: d239 :: d240 :: d241 :: (dB v245) :: (dB v245) :: q5 [])))))), [(b20_0 a0), (b20_1 v1), (b20_2 v182)]⟩) ?_ fun G20g246 => Ops.st _ (by kernel_rfl) (G20g246 v243 h)
              intro v245 h
              cases v245
              ·refine Ops.sg 4 21 ?_
               exact Ops.st _ (by kernel_rfl) (J20j252 (.ptr 2 4) (dI v182.fWeight) (dB (decide (v182.fWeight > 1000000))) false (decide (v182.fWeight > 1000000)) h)
              ·refine Ops.sg 4 21 ?_
               exact Ops.st _ (by kernel_rfl) (J20j252 U U U true true h)
             refine Ops.hv (fun KQ => ∀ v237 : Bool, f20_r4 m v172 v182 (v237 || (decide (v182.fWeight < 0))) = some sx180 → KQ 12 ⟨q2 ((.ptr 0 0) :: q1 ((dI 0) :: q4 ((.ptr 2 0) :: q31 ((dP e34 v1.fItems) :: (dI (v1.fItems.length : Int)) :: (dI v172) :: q28 ((dP eS v182.fTags) :: (dI (v182.fTags.length : Int)) :: (dI y224) :: q7 ((.ptr 2 3) :: (dI v182.fNext) :: (dB v234) :: (dB v234) :: d228 :: d229 :: d230 :: d231 :: d232 :: d233 :: (dB v237) :: (dB v237) :: q10 [])))))), [(b20_0 a0), (b20_1 v1), (b20_2 v182)]⟩) ?_ fun G20g238 => Ops.st _ (by kernel_rfl) (G20g238 v235 h)
             intro v237 h
             cases v237
             ·refine Ops.sg 4 16 ?_
              exact Ops.st _ (by kernel_rfl) (J20j244 (.ptr 2 4) (dI v182.fWeight) (dB (decide (v182.fWeight < 0))) false (decide (v182.fWeight < 0)) h)
             ·refine Ops.sg 4 16 ?_
              exact Ops.st _ (by kernel_rfl) (J20j244 U U U true true h)
            refine Ops.hv (fun KQ => ∀ v226 : Bool, f20_r5 m v172 v182 (v226 || (decide (v182.fNext ≥ (a0.fClasses.length : Int)))) = some sx180 → KQ 4 ⟨q2 ((.ptr 0 0) :: q1 ((dI 0) :: q4 ((.ptr 2 0) :: q31 ((dP e34 v1.fItems) :: (dI (v1.fItems.length : Int)) :: (dI v172) :: q28 ((dP eS v182.fTags) :: (dI (v182.fTags.length : Int)) :: (dI y224) :: q7 ((.ptr 2 3) :: (dI v182.fNext) :: (dB v226) :: (dB v226) :: q18 [])))))), [(b20_0 a0), (b20_1 v1), (b20_2 v182)]⟩) ?_ fun G20g227 => Ops.st _ (by kernel_rfl) (G20g227 (decide (v182.fNext < (-1))) h)
            intro v226 h
            cases v226
            ·refine Ops.sg 4 8 ?_
             refine Ops.on 9 (fun h0 e0 => (len_r (T := T) h0 22 38 .plain e37 a0.fClasses (by kernel_rfl))) ?_
             refine Ops.sg 2 11 ?_
             exact Ops.st _ (by kernel_rfl) (J20j236 (.ptr 2 3) (dI v182.fNext) (.ptr 0 0) (dP e37 a0.fClasses) (dI (a0.fClasses.length : Int)) (dB (decide (v182.fNext ≥ (a0.fClasses.length : Int)))) false (decide (v182.fNext ≥ (a0.fClasses.length : Int))) h)
            ·refine Ops.sg 7 11 ?_
             exact Ops.st _ (by kernel_rfl) (J20j236 U U U U U U true true h)
        obtain ⟨v204, ev204, h⟩ := bnd_some h
        refine Ops.hv (fun KQ => ∀ v192 : Bool, (cnd v192 (some true) (cnd (!(v182.fForm.toList == (⟨#[]⟩ : ByteArray).toList)) (bnd (f39 m v182.fForm) fun v255 => some (!v255)) (some false))) = some v204 → KQ 10 ⟨q2 ((.ptr 0 0) :: q1 ((dI 0) :: q4 ((.ptr 2 0) :: q31 ((dP e34 v1.fItems) :: (dI (v1.fItems.length : Int)) :: (dI v172) :: (dB (decide (v172 < (v1.fItems.length : Int)))) :: (.vptr [(.str v182.fBase), (.str v182.fForm), (vP eS v182.fTags), (vI v182.fNext), (vI v182.fWeight)]) :: (.v (.agg [(.str v182.fBase), (.str v182.fForm), (vP eS v182.fTags), (vI v182.fNext), (vI v182.fWeight)])) :: (.ptr 2 0) :: (.v (.str v182.fBase)) :: (dB v189) :: (dB v189) :: d185 :: d186 :: d187 :: d188 :: (dB v192) :: (dB v192) :: q40 (q7 []))))), [(b20_0 a0), (b20_1 v1), (b20_2 v182)]⟩) ?_ fun G20g193 => Ops.st _ (by kernel_rfl) (G20g193 v190 ev204)
        intro v192 ev204
        cases v192
        ·have ev204 := cnd_f ev204
         refine Ops.sg 4 14 ?_
         refine Ops.hv (fun KQ => ∀ v253 : Bool, (cnd v253 (bnd (f39 m v182.fForm) fun v255 => some (!v255)) (some false)) = some v204 → KQ 14 ⟨q2 ((.ptr 0 0) :: q1 ((dI 0) :: q4 ((.ptr 2 0) :: q31 ((dP e34 v1.fItems) :: (dI (v1.fItems.length : Int)) :: (dI v172) :: (dB (decide (v172 < (v1.fItems.length : Int)))) :: (.vptr [(.str v182.fBase), (.str v182.fForm), (vP eS v182.fTags), (vI v182.fNext), (vI v182.fWeight)]) :: (.v (.agg [(.str v182.fBase), (.str v182.fForm), (vP eS v182.fTags), (vI v182.fNext), (vI v182.fWeight)])) :: (.ptr 2 0) :: (.v (.str v182.fBase)) :: (dB v189) :: (dB v189) :: d185 :: d186 :: d187 :: d188 :: (dB false) :: (dB false) :: (.ptr 2 1) :: (.v (.str v182.fForm)) :: (dB v253) :: (dB v253) :: q40 (q3 []))))), [(b20_0 a0), (b20_1 v1), (b20_2 v182)]⟩) ?_ fun G20g254 => Ops.st _ (by kernel_rfl) (G20g254 (!(v182.fForm.toList == (⟨#[]⟩ : ByteArray).toList)) ev204)
         intro v253 ev204
         cases v253
         ·have ev204 := cnd_f ev204
          refine Ops.sg 6 20 ?_
          exact Ops.st _ (by kernel_rfl) (J20j205 (.ptr 2 1) (.v (.str v182.fForm)) (dB false) (dB false) U U U U (dB false) false false (some_sub (fun v204 => f20_r6 m a0 v172 v182 v204 = some sx180) ev204 h))
         ·have ev204 := cnd_t ev204
          refine Ops.sg 2 16 ?_
          obtain ⟨v255, ev255, ev204⟩ := bnd_some ev204
          refine Ops.on 17 (fun h0 e0 => (call_ok (E' := EG) (h := h0) (by kernel_rfl) (Args.v (.str v182.fForm) (eS v182.fForm) (by kernel_rfl) Args.nil) (ok39 m v182.fForm v255 ev255 n (by omega)))) ?_
          refine Ops.sg 3 20 ?_
          exact Ops.st _ (by kernel_rfl) (J20j205 (.ptr 2 1) (.v (.str v182.fForm)) (dB true) (dB true) (.ptr 2 1) (.v (.str v182.fForm)) (dB v255) (dB (!v255)) (dB (!v255)) false (!v255) (some_sub (fun v204 => f20_r6 m a0 v172 v182 v204 = some sx180) ev204 h))
        ·have ev204 := cnd_t ev204
         refine Ops.sg 10 20 ?_
         exact Ops.st _ (by kernel_rfl) (J20j205 U U U U U U U U U true true (some_sub (fun v204 => f20_r6 m a0 v172 v182 v204 = some sx180) ev204 h))
       obtain ⟨v190, ev190, h⟩ := bnd_some h
       refine Ops.hv (fun KQ => ∀ v183 : Bool, (cnd v183 (bnd (f39 m v182.fBase) fun v256 => some (!v256)) (some false)) = some v190 → KQ 4 ⟨q2 ((.ptr 0 0) :: q1 ((dI 0) :: q4 ((.ptr 2 0) :: q31 ((dP e34 v1.fItems) :: (dI (v1.fItems.length : Int)) :: (dI v172) :: (dB (decide (v172 < (v1.fItems.length : Int)))) :: (.vptr [(.str v182.fBase), (.str v182.fForm), (vP eS v182.fTags), (vI v182.fNext), (vI v182.fWeight)]) :: (.v (.agg [(.str v182.fBase), (.str v182.fForm), (vP eS v182.fTags), (vI v182.fNext), (vI v182.fWeight)])) :: (.ptr 2 0) :: (.v (.str v182.fBase)) :: (dB v183) :: (dB v183) :: q40 (q13 []))))), [(b20_0 a0), (b20_1 v1), (b20_2 v182)]⟩) ?_ fun G20g184 => Ops.st _ (by kernel_rfl) (G20g184 (!(v182.fBase.toList == (⟨#[]⟩ : ByteArray).toList)) ev190)
       intro v183 ev190
       cases v183
       ·have ev190 := cnd_f ev190
        refine Ops.sg 5 9 ?_
        exact Ops.st _ (by kernel_rfl) (J20j191 U U U U false false (some_sub (fun v190 => f20_r7 m a0 v172 v182 v190 = some sx180) ev190 h))
       ·have ev190 := cnd_t ev190
        refine Ops.sg 2 6 ?_
        obtain ⟨v256, ev256, ev190⟩ := bnd_some ev190
        refine Ops.on 7 (fun h0 e0 => (call_ok (E' := EG) (h := h0) (by kernel_rfl) (Args.v (.str v182.fBase) (eS v182.fBase) (by kernel_rfl) Args.nil) (ok39 m v182.fBase v256 ev256 n (by omega)))) ?_
        refine Ops.sg 2 9 ?_
        exact Ops.st _ (by kernel_rfl) (J20j191 (.ptr 2 0) (.v (.str v182.fBase)) (dB v256) (dB (!v256)) true (!v256) (some_sub (fun v190 => f20_r7 m a0 v172 v182 v190 = some sx180) ev190 h))
      ·refine Wp.exit (id := 2) (by kernel_rfl) ?_
       refine sqQ.x ?_
       refine seqQ.x ?_
       cases h
       refine lpQ.x ?_
       refine blkQ.x ⟨q2 ((.ptr 0 0) :: q1 ((dI 0) :: q36 ((dP e34 v1.fItems) :: (dI (v1.fItems.length : Int)) :: (dI v172) :: q40 (q20 [])))), [(b20_0 a0), (b20_1 v1)]⟩ (by kernel_rfl) ?_
       exact hxx178 v172  hsx181
    refine Wp.loop' k20_1 2 (by kernel_rfl) ⟨q2 ((.ptr 0 0) :: q1 ((dI 0) :: q36 ((dP e34 v1.fItems) :: (dI (v1.fItems.length : Int)) :: (dI 0) :: q40 (q20 [])))), [(b20_0 a0), (b20_1 v1)]⟩ (by kernel_rfl) ?_
    rcases brk_some h with ⟨r259, er259, h⟩ | ⟨y258, ey258, h⟩
    ·refine hLx257 _ 0  _ er259 n (by omega) (fun r er σ hσ => ?_) (fun y  ey => by cases ey)
     cases er
     refine seqQ.r ?_
     exact fnQ.r' (X20 n) (fun z => (eI z)) h hσ
    ·refine hLx257 _ 0  _ ey258 n (by omega) (fun r er => by cases er) (fun y  ey => ?_)
     cases ey
     refine seqQ.n ?_
     refine Wp.sq ?_
     refine Wp.rg ?_
     refine Ops.sg 1 1 ?_
     refine Ops.dn ?_
     refine seqQ.n ?_
     refine Wp.ret (by kernel_rfl) ?_
     exact fnQ.r' (X20 n) (fun z => (eI z)) h (RetOk.mk' (dI 0) (by kernel_rfl) (by kernel_rfl))
def f7_B1 (m : Nat) (a0 : S23) (v16 : Int) : Option (Stp S29 (Int)) :=
 cnd (decide (v16 < (a0.fClasses.length : Int)))
 (bnd (f20 m a0 v16) fun v26 =>
 cnd (v26 != 0)
 (bnd (f11 m v26 v16) fun v27 =>
 some (.ret v27))
 (some (.nxt (w64 (v16 + 1)))))
 (some (.brk v16))
def f7_r2 (m : Nat) (a0 : S23) (v8 : Bool) : Option S29 :=
 cnd v8
 (bnd (f11 m 9 (-1)) fun v10 =>
 some v10)
 (brk (iter (fun (y : Int) => f7_B1 m a0 y) m 0) some fun y29 =>
 some ((⟨0, 0⟩ : S29)))
def f7 (m : Nat) (a0 : S23) : Option S29 :=
 f7_r2 m a0 ((decide ((a0.fClasses.length : Int) < 1)) || (decide ((a0.fClasses.length : Int) > 40)))
noncomputable abbrev X7 (n : Nat) : Cx := cxOf Proofs.Tryd.prog EG 7 n
noncomputable def C7 : Code := bodyOf Proofs.Tryd.prog 7
abbrev b7_0 (w0 : S23) : AObj := .cells [(dP e37 w0.fClasses)]
theorem ok7 (m : Nat) (a0 : S23) (o : S29) (h : f7 m a0 = some o) (n : Nat) (hn : m + 5 ≤ n) : Fn Proofs.Tryd.prog EG n 7 [.v (e23 a0)] (e29 o) := by
 obtain ⟨n, rfl⟩ : ∃ q, n = q + 1 := ⟨n - 1, by omega⟩
 unfold f7 at h
 refine Fn.of (by kernel_rfl) (by kernel_rfl) (by kernel_rfl) ⟨(.v (.agg [(vP e37 a0.fClasses)])) :: u31 [], []⟩ (by kernel_rfl) ?_
 refine Wp.sq ?_
 refine Wp.rg ?_
 refine Ops.sg 2 2 ?_
 refine Ops.dn ?_
 refine seqQ.n ?_
 refine Wp.sq ?_
 refine Wp.sq ?_
 refine Wp.rg ?_
 refine Ops.sg 2 2 ?_
 refine Ops.on 3 (fun h0 e0 => (len_r (T := T) h0 22 38 .plain e37 a0.fClasses (by kernel_rfl))) ?_
 refine Ops.sg 2 5 ?_
 refine Ops.hv (fun KQ => ∀ (d3 d4 d5 d6 : D) (v7 : Bool) (v8 : Bool), f7_r2 m a0 v8 = some o → KQ 10 ⟨(.v (.agg [(vP e37 a0.fClasses)])) :: (.ptr 0 0) :: (.ptr 1 0) :: u2 ((.ptr 0 0) :: (dP e37 a0.fClasses) :: (dI (a0.fClasses.length : Int)) :: (dB v7) :: (dB v7) :: d3 :: d4 :: d5 :: d6 :: (dB v8) :: u17 []), [(b7_0 a0), (.cells [(dI 0), (dI 0)])]⟩) ?_ fun J7j9 => ?_
 ·intro d3 d4 d5 d6 v7 v8 h
  unfold f7_r2 at h
  refine Ops.dn ?_
  refine seqQ.n ?_
  refine Wp.cnd h [1, 2] 2 (by kernel_rfl) (fun h => ?_) (fun h => ?_)
  ·refine Wp.sq ?_
   refine Wp.rg ?_
   obtain ⟨v10, ev10, h⟩ := bnd_some h
   refine Ops.on 1 (fun h0 e0 => (call_ok (E' := EG) (h := h0) (by kernel_rfl) (Args.v (vI 9) (eI 9) (by kernel_rfl) (Args.v (vI (-1)) (eI (-1)) (by kernel_rfl) Args.nil)) (ok11 m 9 (-1) v10 ev10 n (by omega)))) ?_
   refine Ops.sg 1 2 ?_
   refine Ops.dn ?_
   refine seqQ.n ?_
   refine Wp.ret (by kernel_rfl) ?_
   refine sqQ.r ?_
   refine seqQ.r ?_
   exact fnQ.r' (X7 n) (fun z => (e29 z)) h (RetOk.mk' (.v (.agg [(vI v10.fCode), (vI v10.fIndex)])) (by kernel_rfl) (by kernel_rfl))
  ·refine Wp.sk ?_
   refine sqQ.n' ?_
   refine seqQ.n ?_
   refine Wp.sq ?_
   refine Wp.sq ?_
   refine Wp.rg ?_
   refine Ops.sg 2 2 ?_
   refine Ops.on 3 (fun h0 e0 => (len_r (T := T) h0 22 38 .plain e37 a0.fClasses (by kernel_rfl))) ?_
   refine Ops.sg 1 4 ?_
   refine Ops.dn ?_
   refine seqQ.n ?_
   refine Wp.block' 0 [2] 2 (by kernel_rfl) ?_
   have hLx28 : ∀ (kx18 : Nat) (v16 : Int)  (ox17 : S29 ⊕ (Int)), iter (fun (y : Int) => f7_B1 m a0 y) kx18 v16 = some ox17 → ∀ nx19, kx18 ≤ nx19 → (∀ r, ox17 = .inl r → ∀ σ, RetOk (X7 n) (resOf Proofs.Tryd.prog 7) (e29 r) σ → (seqQ (X7 n) (cR (cR (cR C7))) (fnQ (X7 n).E.T (resOf Proofs.Tryd.prog 7) (e29 o))) .ret σ) → (∀ (y : Int) , ox17 = .inr y → (seqQ (X7 n) (cR (cR (cR C7))) (fnQ (X7 n).E.T (resOf Proofs.Tryd.prog 7) (e29 o))) .normal ⟨q1 ((.ptr 0 0) :: (.ptr 1 0) :: q15 ((dI (a0.fClasses.length : Int)) :: (dI y) :: q12 [])), [(b7_0 a0), (.cells [(dI 0), (dI 0)])]⟩) → Lp (X7 n) [1, 2, 18, 19] 2 (cL (cL (cR (cL (cR (cR C7)))))) nx19 ⟨q1 ((.ptr 0 0) :: (.ptr 1 0) :: q15 ((dI (a0.fClasses.length : Int)) :: (dI v16) :: q12 [])), [(b7_0 a0), (.cells [(dI 0), (dI 0)])]⟩ (blkQ (X7 n) 0 [2] 2 (seqQ (X7 n) (cR (cR (cR C7))) (fnQ (X7 n).E.T (resOf Proofs.Tryd.prog 7) (e29 o)))) := by
    intro kx18
    induction kx18 with
    | zero => intro v16  ox17 h; exact (iter_zero h).elim
    | succ kx18 ihx20 =>
     intro v16  ox17 h nx19 hnx23 hrx21 hxx22
     obtain ⟨nx19, rfl⟩ : ∃ q, nx19 = q + 1 := ⟨nx19 - 1, by omega⟩
     obtain ⟨sx24, h, hsx25⟩ := iter_some h
     have h : f7_B1 m a0 v16 = some sx24 := h
     unfold f7_B1 at h
     refine Lp.succ ?_
     refine Wp.sq ?_
     refine Wp.rg ?_
     refine Ops.sg 1 1 ?_
     refine Ops.dn ?_
     refine seqQ.n ?_
     refine Wp.sq ?_
     refine Wp.cnd h [1, 2, 18, 19] 2 (by kernel_rfl) (fun h => ?_) (fun h => ?_)
     ·refine Wp.sk ?_
      refine sqQ.n' ?_
      refine seqQ.n ?_
      refine Wp.sq ?_
      refine Wp.block' 1 [1, 2, 18, 19] 2 (by kernel_rfl) ?_
      refine Wp.sq ?_
      refine Wp.rg ?_
      refine Ops.sg 2 2 ?_
      refine Ops.dn ?_
      refine seqQ.n ?_
      refine Wp.sq ?_
      refine Wp.rg ?_
      refine Ops.sg 2 2 ?_
      obtain ⟨v26, ev26, h⟩ := bnd_some h
      refine Ops.on 3 (fun h0 e0 => (call_ok (E' := EG) (h := h0) (by kernel_rfl) (Args.v (.agg [(vP e37 a0.fClasses)]) (e23 a0) (by kernel_rfl) (Args.v (vI v16) (eI v16) (by kernel_rfl) Args.nil)) (ok20 m a0 v16 v26 ev26 n (by omega)))) ?_
      refine Ops.sg 1 4 ?_
      refine Ops.dn ?_
      refine seqQ.n ?_
      refine Wp.sq ?_
      refine Wp.rg ?_
      refine Ops.sg 2 2 ?_
      refine Ops.dn ?_
      refine seqQ.n ?_
      refine Wp.cnd h [1, 2, 18, 19] 2 (by kernel_rfl) (fun h => ?_) (fun h => ?_)
      ·refine Wp.sq ?_
       refine Wp.rg ?_
       refine Ops.sg 2 2 ?_
       obtain ⟨v27, ev27, h⟩ := bnd_some h
       refine Ops.on 3 (fun h0 e0 => (call_ok (E' := EG) (h := h0) (by kernel_rfl) (Args.v (vI v26) (eI v26) (by kernel_rfl) (Args.v (vI v16) (eI v16) (by kernel_rfl) Args.nil)) (ok11 m v26 v16 v27 ev27 n (by omega)))) ?_
       refine Ops.sg 1 4 ?_
       refine Ops.dn ?_
       refine seqQ.n ?_
       refine Wp.ret (by kernel_rfl) ?_
       refine sqQ.r ?_
       refine blkQ.r ?_
       refine seqQ.r ?_
       cases h
       refine lpQ.r ?_
       refine blkQ.r ?_
       exact hrx21 _ hsx25 _ (RetOk.forget [1, 2, 18, 19] (by kernel_rfl) (RetOk.mk' (.v (.agg [(vI v27.fCode), (vI v27.fIndex)])) (by kernel_rfl) (by kernel_rfl)))
      ·refine Wp.sk ?_
       refine sqQ.n' ?_
       refine blkQ.n' ?_
       refine seqQ.n ?_
       refine Wp.rg ?_
       refine Ops.sg 2 2 ?_
       refine Ops.dn ?_
       refine lpQ.n ⟨q1 ((.ptr 0 0) :: (.ptr 1 0) :: q15 ((dI (a0.fClasses.length : Int)) :: (dI (w64 (v16 + 1))) :: q12 [])), [(b7_0 a0), (.cells [(dI 0), (dI 0)])]⟩ (by kernel_rfl) ?_
       cases h
       exact ihx20 (w64 (v16 + 1))  _ hsx25 _ (by omega) hrx21 hxx22
     ·refine Wp.exit (id := 0) (by kernel_rfl) ?_
      refine sqQ.x ?_
      refine seqQ.x ?_
      cases h
      refine lpQ.x ?_
      refine blkQ.x ⟨q1 ((.ptr 0 0) :: (.ptr 1 0) :: q15 ((dI (a0.fClasses.length : Int)) :: (dI v16) :: q12 [])), [(b7_0 a0), (.cells [(dI 0), (dI 0)])]⟩ (by kernel_rfl) ?_
      exact hxx22 v16  hsx25
   refine Wp.loop' [1, 2, 18, 19] 2 (by kernel_rfl) ⟨q1 ((.ptr 0 0) :: (.ptr 1 0) :: q15 ((dI (a0.fClasses.length : Int)) :: (dI 0) :: q12 [])), [(b7_0 a0), (.cells [(dI 0), (dI 0)])]⟩ (by kernel_rfl) ?_
   rcases brk_some h with ⟨r30, er30, h⟩ | ⟨y29, ey29, h⟩
   ·refine hLx28 _ 0  _ er30 n (by omega) (fun r er σ hσ => ?_) (fun y  ey => by cases ey)
    cases er
    refine seqQ.r ?_
    exact fnQ.r' (X7 n) (fun z => (e29 z)) h hσ
   ·refine hLx28 _ 0  _ ey29 n (by omega) (fun r er => by cases er) (fun y  ey => ?_)
    cases ey
    refine seqQ.n ?_
    refine Wp.sq ?_
    refine Wp.rg ?_
    refine Ops.sg 2 2 ?_
    refine Ops.dn ?_
    refine seqQ.n ?_
    refine Wp.ret (by kernel_rfl) ?_
    exact fnQ.r' (X7 n) (fun z => (e29 z)) h (RetOk.mk' (.v (.agg [(vI 0), (vI 0)])) (by kernel_rfl) (by kernel_rfl))
 refine Ops.hv (fun KQ => ∀ v1 : Bool, f7_r2 m a0 (v1 || (decide ((a0.fClasses.length : Int) > 40))) = some o → KQ 5 ⟨(.v (.agg [(vP e37 a0.fClasses)])) :: (.ptr 0 0) :: (.ptr 1 0) :: u2 ((.ptr 0 0) :: (dP e37 a0.fClasses) :: (dI (a0.fClasses.length : Int)) :: (dB v1) :: (dB v1) :: u22 []), [(b7_0 a0), (.cells [(dI 0), (dI 0)])]⟩) ?_ fun G7g2 => Ops.st _ (by kernel_rfl) (G7g2 (decide ((a0.fClasses.length : Int) < 1)) h)
 intro v1 h
 cases v1
 ·refine Ops.sg 2 7 ?_
  refine Ops.on 8 (fun h0 e0 => (len_r (T := T) h0 22 38 .plain e37 a0.fClasses (by kernel_rfl))) ?_
  refine Ops.sg 2 10 ?_
  exact Ops.st _ (by kernel_rfl) (J7j9 (.ptr 0 0) (dP e37 a0.fClasses) (dI (a0.fClasses.length : Int)) (dB (decide ((a0.fClasses.length : Int) > 40))) false (decide ((a0.fClasses.length : Int) > 40)) h)
 ·refine Ops.sg 5 10 ?_
  exact Ops.st _ (by kernel_rfl) (J7j9 U U U U true true h)
def f8_B1 (m : Nat) (v60 : S37) (v67 : (List ByteArray)) (v68 : Int) : Option (Stp (List ByteArray) ((List ByteArray) × Int)) :=
 cnd (decide (v68 < (v60.fItems.length : Int)))
 (bnd (idx v60.fItems v68) fun v78 =>
 bnd (app 16 v67 v78.fTags) fun v79 =>
 some (.nxt (v79, w64 (v68 + 1))))
 (some (.brk (v67, v68)))
def f8_B2 (m : Nat) (a0 : S23) (v49 : (List ByteArray)) (v50 : Int) : Option (Stp (List ByteArray) ((List ByteArray) × Int)) :=
 cnd (decide (v50 < (a0.fClasses.length : Int)))
 (bnd (idx a0.fClasses v50) fun v60 =>
 brk (iter (fun (y : (List ByteArray) × Int) => f8_B1 m v60 y.1 y.2) m (v49, 0)) (fun r => some (.ret r)) fun y81 =>
 some (.nxt (y81.1, w64 (v50 + 1))))
 (some (.brk (v49, v50)))
def f8 (m : Nat) (a0 : S23) : Option (List ByteArray) :=
 brk (iter (fun (y : (List ByteArray) × Int) => f8_B2 m a0 y.1 y.2) m ([], 0)) some fun y84 =>
 bnd (srt y84.1) fun v86 =>
 some (compactS v86)
noncomputable abbrev X8 (n : Nat) : Cx := cxOf Proofs.Tryd.prog EG 8 n
noncomputable def C8 : Code := bodyOf Proofs.Tryd.prog 8
noncomputable abbrev p8_0 : Code := cL (cL (cR (cL (cR (cR C8)))))
noncomputable abbrev p8_1 : Code := cR (cR (cR p8_0))
abbrev b8_0 (w0 : S23) : AObj := .cells [(dP e37 w0.fClasses)]
abbrev b8_1 (w0 : S37) : AObj := .cells [(.v (.str w0.fName)), (dP e34 w0.fItems)]
abbrev k8_0 : List Nat := [2, 3, 9, 10, 11]
abbrev k8_1 : List Nat := [2, 3, 9, 10, 11, 16, 17, 18]
theorem ok8 (m : Nat) (a0 : S23) (o : (List ByteArray)) (h : f8 m a0 = some o) (n : Nat) (hn : m + 2 ≤ n) : FnO Proofs.Tryd.prog EG n 8 [.v (e23 a0)] ((eL eS) o) := by
 obtain ⟨n, rfl⟩ : ∃ q, n = q + 1 := ⟨n - 1, by omega⟩
 unfold f8 at h
 refine FnO.of (by kernel_rfl) (by kernel_rfl) (by kernel_rfl) ⟨(.v (.agg [(vP e37 a0.fClasses)])) :: u31 [], []⟩ (by kernel_rfl) ?_
 refine Wp.sq ?_
 refine Wp.rg ?_
 refine Ops.sg 2 2 ?_
 refine Ops.dn ?_
 refine seqQ.n ?_
 refine Wp.sq ?_
 refine Wp.rg ?_
 refine Ops.sg 1 1 ?_
 refine Ops.dn ?_
 refine seqQ.n ?_
 refine Wp.sq ?_
 refine Wp.sq ?_
 refine Wp.rg ?_
 refine Ops.sg 2 2 ?_
 refine Ops.on 3 (fun h0 e0 => (len_r (T := T) h0 22 38 .plain e37 a0.fClasses (by kernel_rfl))) ?_
 refine Ops.sg 1 4 ?_
 refine Ops.dn ?_
 refine seqQ.n ?_
 refine Wp.block' 0 [2, 3] 1 (by kernel_rfl) ?_
 have hLx83 : ∀ (kx52 : Nat) (v49 : (List ByteArray)) (v50 : Int)  (ox51 : (List ByteArray) ⊕ ((List ByteArray) × Int)), iter (fun (y : (List ByteArray) × Int) => f8_B2 m a0 y.1 y.2) kx52 (v49, v50) = some ox51 → ∀ nx53, kx52 ≤ nx53 → (∀ r, ox51 = .inl r → ∀ σ, RetOkO (X8 n) (resOf Proofs.Tryd.prog 8) ((eL eS) r) σ → (seqQ (X8 n) (cR (cR (cR C8))) (fnQO (X8 n).E.T (resOf Proofs.Tryd.prog 8) ((eL eS) o))) .ret σ) → (∀ (y : (List ByteArray) × Int) , ox51 = .inr y → (seqQ (X8 n) (cR (cR (cR C8))) (fnQO (X8 n).E.T (resOf Proofs.Tryd.prog 8) ((eL eS) o))) .normal ⟨q2 ((.v (.sl .nil (List.map eS []))) :: (rowF .nil 1 (List.map eS y.1)) :: q28 []), [(b8_0 a0), (rowO 1 (List.map eS y.1))]⟩) → Lp (X8 n) k8_0 1 p8_0 nx53 ⟨q2 ((.v (.sl .nil (List.map eS []))) :: (rowF .nil 1 (List.map eS v49)) :: q5 ((dP e37 a0.fClasses) :: (dI (a0.fClasses.length : Int)) :: (dI v50) :: q20 [])), [(b8_0 a0), (rowO 1 (List.map eS v49))]⟩ (blkQ (X8 n) 0 [2, 3] 1 (seqQ (X8 n) (cR (cR (cR C8))) (fnQO (X8 n).E.T (resOf Proofs.Tryd.prog 8) ((eL eS) o)))) := by
  intro kx52
  induction kx52 with
  | zero => intro v49 v50  ox51 h; exact (iter_zero h).elim
  | succ kx52 ihx54 =>
   intro v49 v50  ox51 h nx53 hnx57 hrx55 hxx56
   obtain ⟨nx53, rfl⟩ : ∃ q, nx53 = q + 1 := ⟨nx53 - 1, by omega⟩
   obtain ⟨sx58, h, hsx59⟩ := iter_some h
   have h : f8_B2 m a0 v49 v50 = some sx58 := h
   unfold f8_B2 at h
   refine Lp.succ ?_
   refine Wp.sq ?_
   refine Wp.rg ?_
   refine Ops.sg 1 1 ?_
   refine Ops.dn ?_
   refine seqQ.n ?_
   refine Wp.sq ?_
   refine Wp.cnd h k8_0 2 (by kernel_rfl) (fun h => ?_) (fun h => ?_)
   ·refine Wp.sk ?_
    refine sqQ.n ⟨q2 ((.v (.sl .nil (List.map eS []))) :: (rowF .nil 2 (List.map eS v49)) :: q5 ((dP e37 a0.fClasses) :: (dI (a0.fClasses.length : Int)) :: (dI v50) :: q20 [])), [(b8_0 a0), .dead, (rowO 1 (List.map eS v49))]⟩ (by generalize v49 = z0; cases z0 <;> kernel_rfl) ?_
    refine seqQ.n ?_
    refine Wp.sq ?_
    refine Wp.block' 1 k8_0 3 (by kernel_rfl) ?_
    refine Wp.sq ?_
    refine Wp.rg ?_
    obtain ⟨v60, ev60, h⟩ := bnd_some h
    refine Ops.on 1 (fun h0 e0 => (ix_r (T := T) h0 22 38 2 .plain e37 a0.fClasses v50 v60 ev60 (by kernel_rfl) (by kernel_rfl) (fun _ => rfl))) ?_
    refine Ops.sg 3 4 ?_
    refine Ops.dn ?_
    refine seqQ.n ?_
    refine Wp.sq ?_
    refine Wp.rg ?_
    refine Ops.sg 2 2 ?_
    refine Ops.on 3 (fun h0 e0 => (len_r (T := T) h0 36 35 .plain e34 v60.fItems (by kernel_rfl))) ?_
    refine Ops.sg 1 4 ?_
    refine Ops.dn ?_
    refine seqQ.n ?_
    refine Wp.block' 2 k8_0 4 (by kernel_rfl) ?_
    have hLx80 : ∀ (kx70 : Nat) (v67 : (List ByteArray)) (v68 : Int)  (ox69 : (List ByteArray) ⊕ ((List ByteArray) × Int)), iter (fun (y : (List ByteArray) × Int) => f8_B1 m v60 y.1 y.2) kx70 (v67, v68) = some ox69 → ∀ nx71, kx70 ≤ nx71 → (∀ r, ox69 = .inl r → ∀ σ, RetOkO (X8 n) (resOf Proofs.Tryd.prog 8) ((eL eS) r) σ → (blkQ (X8 n) 1 k8_0 3 (seqQ (X8 n) p8_1 (lpQ (X8 n) k8_0 1 p8_0 nx53 (blkQ (X8 n) 0 [2, 3] 1 (seqQ (X8 n) (cR (cR (cR C8))) (fnQO (X8 n).E.T (resOf Proofs.Tryd.prog 8) ((eL eS) o))))))) .ret σ) → (∀ (y : (List ByteArray) × Int) , ox69 = .inr y → (blkQ (X8 n) 1 k8_0 3 (seqQ (X8 n) p8_1 (lpQ (X8 n) k8_0 1 p8_0 nx53 (blkQ (X8 n) 0 [2, 3] 1 (seqQ (X8 n) (cR (cR (cR C8))) (fnQO (X8 n).E.T (resOf Proofs.Tryd.prog 8) ((eL eS) o))))))) .normal ⟨q2 ((.v (.sl .nil (List.map eS []))) :: (rowF .nil 4 (List.map eS y.1)) :: q5 ((dP e37 a0.fClasses) :: (dI (a0.fClasses.length : Int)) :: (dI v50) :: q20 [])), [(b8_0 a0), .dead, .dead, (b8_1 v60), (rowO 1 (List.map eS y.1))]⟩) → Lp (X8 n) k8_1 4 (cL (cL (cR (cR (cL (cL (cR (cR p8_0)))))))) nx71 ⟨q2 ((.v (.sl .nil (List.map eS []))) :: (rowF .nil 4 (List.map eS v67)) :: q5 ((dP e37 a0.fClasses) :: (dI (a0.fClasses.length : Int)) :: (dI v50) :: q4 ((dP e34 v60.fItems) :: (dI (v60.fItems.length : Int)) :: (dI v68) :: q13 []))), [(b8_0 a0), .dead, .dead, (b8_1 v60), (rowO 1 (List.map eS v67))]⟩ (blkQ (X8 n) 2 k8_0 4 (blkQ (X8 n) 1 k8_0 3 (seqQ (X8 n) p8_1 (lpQ (X8 n) k8_0 1 p8_0 nx53 (blkQ (X8 n) 0 [2, 3] 1 (seqQ (X8 n) (cR (cR (cR C8))) (fnQO (X8 n).E.T (resOf Proofs.Tryd.prog 8) ((eL eS) o)))))))) := by
     intro kx70
     induction kx70 with
     | zero => intro v67 v68  ox69 h; exact (iter_zero h).elim
     | succ kx70 ihx72 =>
      intro v67 v68  ox69 h nx71 hnx75 hrx73 hxx74
      obtain ⟨nx71, rfl⟩ : ∃ q, nx71 = q + 1 := ⟨nx71 - 1, by omega⟩
      obtain ⟨sx76, h, hsx77⟩ := iter_some h
      have h : f8_B1 m v60 v67 v68 = some sx76 := h
      unfold f8_B1 at h
      refine Lp.succ ?_
      refine Wp.sq ?_
      refine Wp.rg ?_
      refine Ops.sg 1 1 ?_
      refine Ops.dn ?_
      refine seqQ.n ?_
      refine Wp.sq ?_
      refine Wp.cnd h k8_1 5 (by kernel_rfl) (fun h => ?_) (fun h => ?_)
      ·refine Wp.sk ?_
       refine sqQ.n ⟨q2 ((.v (.sl .nil (List.map eS []))) :: (rowF .nil 5 (List.map eS v67)) :: q5 ((dP e37 a0.fClasses) :: (dI (a0.fClasses.length : Int)) :: (dI v50) :: q4 ((dP e34 v60.fItems) :: (dI (v60.fItems.length : Int)) :: (dI v68) :: q13 []))), [(b8_0 a0), .dead, .dead, (b8_1 v60), .dead, (rowO 1 (List.map eS v67))]⟩ (by generalize v67 = z0; cases z0 <;> kernel_rfl) ?_
       refine seqQ.n ?_
       refine Wp.sq ?_
       refine Wp.block' 3 k8_1 6 (by kernel_rfl) ?_
       refine Wp.sq ?_
       refine Wp.rg ?_
       obtain ⟨v78, ev78, h⟩ := bnd_some h
       refine Ops.on 1 (fun h0 e0 => (ix_r (T := T) h0 36 35 5 .plain e34 v60.fItems v68 v78 ev78 (by kernel_rfl) (by kernel_rfl) (fun _ => rfl))) ?_
       refine Ops.sg 3 4 ?_
       refine Ops.dn ?_
       refine seqQ.n ?_
       refine Wp.rg ?_
       refine Ops.sg 3 3 ?_
       obtain ⟨v79, ev79, h⟩ := bnd_some h
       refine Ops.on 4 (fun h0 e0 => (row_app (T := T) (g := .nil) h0 33 9 5 ti9 .plain eS v67 v78.fTags v79 ev79 (by kernel_rfl) (by kernel_rfl) (by kernel_rfl) (by kernel_rfl) (fun _ => rfl) (hq_of e0 (by kernel_rfl)))) ?_
       refine Ops.sg 1 5 ?_
       refine Ops.dn ?_
       refine blkQ.n ⟨q2 ((.v (.sl .nil (List.map eS []))) :: (rowF .nil 6 (List.map eS v79)) :: q5 ((dP e37 a0.fClasses) :: (dI (a0.fClasses.length : Int)) :: (dI v50) :: q4 ((dP e34 v60.fItems) :: (dI (v60.fItems.length : Int)) :: (dI v68) :: q13 []))), [(b8_0 a0), .dead, .dead, (b8_1 v60), .dead, .dead, (rowO 1 (List.map eS v79))]⟩ (by generalize v79 = z0; cases z0 <;> kernel_rfl) ?_
       refine seqQ.n ?_
       refine Wp.rg ?_
       refine Ops.sg 2 2 ?_
       refine Ops.dn ?_
       refine lpQ.n ⟨q2 ((.v (.sl .nil (List.map eS []))) :: (rowF .nil 4 (List.map eS v79)) :: q5 ((dP e37 a0.fClasses) :: (dI (a0.fClasses.length : Int)) :: (dI v50) :: q4 ((dP e34 v60.fItems) :: (dI (v60.fItems.length : Int)) :: (dI (w64 (v68 + 1))) :: q13 []))), [(b8_0 a0), .dead, .dead, (b8_1 v60), (rowO 1 (List.map eS v79))]⟩ (by generalize v79 = z0; cases z0 <;> kernel_rfl) ?_
       cases h
       exact ihx72 v79 (w64 (v68 + 1))  _ hsx77 _ (by omega) hrx73 hxx74
      ·refine Wp.exit (id := 2) (by kernel_rfl) ?_
       refine sqQ.x ?_
       refine seqQ.x ?_
       cases h
       refine lpQ.x ?_
       refine blkQ.x ⟨q2 ((.v (.sl .nil (List.map eS []))) :: (rowF .nil 4 (List.map eS v67)) :: q5 ((dP e37 a0.fClasses) :: (dI (a0.fClasses.length : Int)) :: (dI v50) :: q20 [])), [(b8_0 a0), .dead, .dead, (b8_1 v60), (rowO 1 (List.map eS v67))]⟩ (by generalize v67 = z0; cases z0 <;> kernel_rfl) ?_
       exact hxx74 (v67, v68)  hsx77
    refine Wp.loop' k8_1 4 (by kernel_rfl) ⟨q2 ((.v (.sl .nil (List.map eS []))) :: (rowF .nil 4 (List.map eS v49)) :: q5 ((dP e37 a0.fClasses) :: (dI (a0.fClasses.length : Int)) :: (dI v50) :: q4 ((dP e34 v60.fItems) :: (dI (v60.fItems.length : Int)) :: (dI 0) :: q13 []))), [(b8_0 a0), .dead, .dead, (b8_1 v60), (rowO 1 (List.map eS v49))]⟩ (by generalize v49 = z0; cases z0 <;> kernel_rfl) ?_
    rcases brk_some h with ⟨r82, er82, h⟩ | ⟨y81, ey81, h⟩
    ·refine hLx80 _ v49 0  _ er82 n (by omega) (fun r er σ hσ => ?_) (fun y  ey => by cases ey)
     cases er
     refine blkQ.r ?_
     refine seqQ.r ?_
     refine lpQ.r ?_
     cases h
     refine blkQ.r ?_
     exact hrx55 _ hsx59 _ (RetOkO.forget k8_0 (by kernel_rfl) hσ)
    ·refine hLx80 _ v49 0  _ ey81 n (by omega) (fun r er => by cases er) (fun y  ey => ?_)
     cases ey
     refine blkQ.n ⟨q2 ((.v (.sl .nil (List.map eS []))) :: (rowF .nil 3 (List.map eS y81.1)) :: q5 ((dP e37 a0.fClasses) :: (dI (a0.fClasses.length : Int)) :: (dI v50) :: q20 [])), [(b8_0 a0), .dead, .dead, (rowO 1 (List.map eS y81.1))]⟩ (by generalize y81.1 = z0; cases z0 <;> kernel_rfl) ?_
     refine seqQ.n ?_
     refine Wp.rg ?_
     refine Ops.sg 2 2 ?_
     refine Ops.dn ?_
     refine lpQ.n ⟨q2 ((.v (.sl .nil (List.map eS []))) :: (rowF .nil 1 (List.map eS y81.1)) :: q5 ((dP e37 a0.fClasses) :: (dI (a0.fClasses.length : Int)) :: (dI (w64 (v50 + 1))) :: q20 [])), [(b8_0 a0), (rowO 1 (List.map eS y81.1))]⟩ (by generalize y81.1 = z0; cases z0 <;> kernel_rfl) ?_
     cases h
     exact ihx54 y81.1 (w64 (v50 + 1))  _ hsx59 _ (by omega) hrx55 hxx56
   ·refine Wp.exit (id := 0) (by kernel_rfl) ?_
    refine sqQ.x ?_
    refine seqQ.x ?_
    cases h
    refine lpQ.x ?_
    refine blkQ.x ⟨q2 ((.v (.sl .nil (List.map eS []))) :: (rowF .nil 1 (List.map eS v49)) :: q28 []), [(b8_0 a0), (rowO 1 (List.map eS v49))]⟩ (by generalize v49 = z0; cases z0 <;> kernel_rfl) ?_
    exact hxx56 (v49, v50)  hsx59
 refine Wp.loop' k8_0 1 (by kernel_rfl) ⟨q2 ((.v (.sl .nil (List.map eS []))) :: (rowF .nil 1 (List.map eS [])) :: q5 ((dP e37 a0.fClasses) :: (dI (a0.fClasses.length : Int)) :: (dI 0) :: q20 [])), [(b8_0 a0), (rowO 1 (List.map eS []))]⟩ (by kernel_rfl) ?_
 rcases brk_some h with ⟨r85, er85, h⟩ | ⟨y84, ey84, h⟩
 ·refine hLx83 _ [] 0  _ er85 n (by omega) (fun r er σ hσ => ?_) (fun y  ey => by cases ey)
  cases er
  refine seqQ.r ?_
  exact fnQO.r' (X8 n) (fun z => ((eL eS) z)) h hσ
 ·refine hLx83 _ [] 0  _ ey84 n (by omega) (fun r er => by cases er) (fun y  ey => ?_)
  cases ey
  refine seqQ.n ?_
  refine Wp.sq ?_
  refine Wp.rg ?_
  refine Ops.sg 1 1 ?_
  obtain ⟨v86, ev86, h⟩ := bnd_some h
  refine Ops.on 2 (fun h0 e0 => (callD_own (P := Proofs.Tryd.prog) (E := EG) (E' := EG) (n := n) (f := 21) (by kernel_rfl) (by kernel_rfl) (by kernel_rfl) (row_sort h0 1 y84.1 v86 ev86 (hq_of e0 (by kernel_rfl))) (by omega))) ?_
  refine Ops.st ⟨q2 ((.v (.sl .nil (List.map eS []))) :: (rowF .nil 1 (List.map eS y84.1)) :: q24 ((rowF .nil 1 (List.map eS y84.1)) :: u1 (q2 []))), [(b8_0 a0), (rowO 1 (List.map eS v86))]⟩ (by kernel_rfl) ?_
  rw [srt_row 1 ev86]
  refine Ops.dn ?_
  refine seqQ.n ?_
  refine Wp.sq ?_
  refine Wp.rg ?_
  refine Ops.sg 1 1 ?_
  refine Ops.on 2 (fun h0 e0 => (callD_own (P := Proofs.Tryd.prog) (E := EG) (E' := EG) (n := n) (f := 22) (by kernel_rfl) (by kernel_rfl) (by kernel_rfl) (row_compact h0 1 v86 (hq_of e0 (by kernel_rfl))) (by omega))) ?_
  refine Ops.sg 1 3 ?_
  refine Ops.dn ?_
  refine seqQ.n ?_
  refine Wp.ret (by kernel_rfl) ?_
  exact fnQO.r' (X8 n) (fun z => ((eL eS) z)) h (RetOkO.row (g := .nil) 1 1 (List.map eS (compactS v86)) (by kernel_rfl) (by kernel_rfl) (flat_eS _))
def f42 (m : Nat) (a0 : ByteArray) : Option Bool :=
 some (!(a0.toList == a0.toList))
noncomputable abbrev X42 (n : Nat) : Cx := cxOf Proofs.Tryd.prog EG 42 n
theorem ok42 (m : Nat) (a0 : ByteArray) (o : Bool) (h : f42 m a0 = some o) (n : Nat) (hn : m + 1 ≤ n) : Fn Proofs.Tryd.prog EG n 42 [.v (eS a0)] (eB o) := by
 obtain ⟨n, rfl⟩ : ∃ q, n = q + 1 := ⟨n - 1, by omega⟩
 unfold f42 at h
 refine Fn.of (by kernel_rfl) (by kernel_rfl) (by kernel_rfl) ⟨(.v (.str a0)) :: u5 [], []⟩ (by kernel_rfl) ?_
 refine Wp.sq ?_
 refine Wp.rg ?_
 refine Ops.sg 1 1 ?_
 refine Ops.dn ?_
 refine seqQ.n ?_
 refine Wp.sq ?_
 refine Wp.rg ?_
 refine Ops.sg 4 4 ?_
 refine Ops.dn ?_
 refine seqQ.n ?_
 refine Wp.ret (by kernel_rfl) ?_
 exact fnQ.r' (X42 n) (fun z => (eB z)) h (RetOk.mk' (dB (!(a0.toList == a0.toList))) (by kernel_rfl) (by kernel_rfl))
def f25_r1 (m : Nat) (v16 : Bool) : Option Bool :=
 some v16
def f25_r2 (m : Nat) (a0 : ByteArray) (a1 : ByteArray) (v8 : Bool) : Option Bool :=
 f25_r1 m (v8 || (Op.bytesLess a0.toList a1.toList))
def f25 (m : Nat) (a0 : ByteArray) (a1 : ByteArray) : Option Bool :=
 bnd (f42 m a0) fun v1 =>
 bnd (cnd v1
 (bnd (f42 m a1) fun v18 =>
 some (!v18))
 (some false)) fun v8 =>
 f25_r2 m a0 a1 v8
noncomputable abbrev X25 (n : Nat) : Cx := cxOf Proofs.Tryd.prog EG 25 n
theorem ok25 (m : Nat) (a0 : ByteArray) (a1 : ByteArray) (o : Bool) (h : f25 m a0 a1 = some o) (n : Nat) (hn : m + 2 ≤ n) : Fn Proofs.Tryd.prog EG n 25 [.v (eS a0), .v (eS a1)] (eB o) := by
 obtain ⟨n, rfl⟩ : ∃ q, n = q + 1 := ⟨n - 1, by omega⟩
 unfold f25 at h
 refine Fn.of (by kernel_rfl) (by kernel_rfl) (by kernel_rfl) ⟨(.v (.str a0)) :: (.v (.str a1)) :: u15 [], []⟩ (by kernel_rfl) ?_
 refine Wp.sq ?_
 refine Wp.rg ?_
 refine Ops.sg 1 1 ?_
 refine Ops.dn ?_
 refine seqQ.n ?_
 refine Wp.sq ?_
 refine Wp.rg ?_
 refine Ops.sg 1 1 ?_
 obtain ⟨v1, ev1, h⟩ := bnd_some h
 refine Ops.on 2 (fun h0 e0 => (call_ok (E' := EG) (h := h0) (by kernel_rfl) (Args.v (.str a0) (eS a0) (by kernel_rfl) Args.nil) (ok42 m a0 v1 ev1 n (by omega)))) ?_
 refine Ops.sg 1 3 ?_
 refine Ops.hv (fun KQ => ∀ (d4 d5 d6 : D) (v7 : Bool) (v8 : Bool), f25_r2 m a0 a1 v8 = some o → KQ 7 ⟨(.v (.str a0)) :: (.v (.str a1)) :: u2 ((dB false) :: (.v (.str a0)) :: (dB v7) :: (dB v7) :: d4 :: d5 :: d6 :: (dB v8) :: u5 []), []⟩) ?_ fun J25j9 => ?_
 ·intro d4 d5 d6 v7 v8 h
  unfold f25_r2 at h
  refine Ops.sg 1 8 ?_
  refine Ops.hv (fun KQ => ∀ (d12 d13 d14 : D) (v15 : Bool) (v16 : Bool), f25_r1 m v16 = some o → KQ 12 ⟨(.v (.str a0)) :: (.v (.str a1)) :: u2 ((dB false) :: (.v (.str a0)) :: (dB v7) :: (dB v7) :: d4 :: d5 :: d6 :: (dB v15) :: (dB v15) :: d12 :: d13 :: d14 :: (dB v16) :: []), []⟩) ?_ fun J25j17 => ?_
  ·intro d12 d13 d14 v15 v16 h
   unfold f25_r1 at h
   refine Ops.sg 1 13 ?_
   refine Ops.dn ?_
   refine seqQ.n ?_
   refine Wp.ret (by kernel_rfl) ?_
   exact fnQ.r' (X25 n) (fun z => (eB z)) h (RetOk.mk' (dB v16) (by kernel_rfl) (by kernel_rfl))
  refine Ops.hv (fun KQ => ∀ v10 : Bool, f25_r1 m (v10 || (Op.bytesLess a0.toList a1.toList)) = some o → KQ 8 ⟨(.v (.str a0)) :: (.v (.str a1)) :: u2 ((dB false) :: (.v (.str a0)) :: (dB v7) :: (dB v7) :: d4 :: d5 :: d6 :: (dB v10) :: (dB v10) :: u4 []), []⟩) ?_ fun G25g11 => Ops.st _ (by kernel_rfl) (G25g11 v8 h)
  intro v10 h
  cases v10
  ·refine Ops.sg 4 12 ?_
   exact Ops.st _ (by kernel_rfl) (J25j17 (.v (.str a0)) (.v (.str a1)) (dB (Op.bytesLess a0.toList a1.toList)) false (Op.bytesLess a0.toList a1.toList) h)
  ·refine Ops.sg 4 12 ?_
   exact Ops.st _ (by kernel_rfl) (J25j17 U U U true true h)
 obtain ⟨v8, ev8, h⟩ := bnd_some h
 refine Ops.hv (fun KQ => ∀ v2 : Bool, (cnd v2 (bnd (f42 m a1) fun v18 => some (!v18)) (some false)) = some v8 → KQ 3 ⟨(.v (.str a0)) :: (.v (.str a1)) :: u2 ((dB false) :: (.v (.str a0)) :: (dB v2) :: (dB v2) :: u9 []), []⟩) ?_ fun G25g3 => Ops.st _ (by kernel_rfl) (G25g3 v1 ev8)
 intro v2 ev8
 cases v2
 ·have ev8 := cnd_f ev8
  refine Ops.sg 4 7 ?_
  exact Ops.st _ (by kernel_rfl) (J25j9 U U U false false (some_sub (fun v8 => f25_r2 m a0 a1 v8 = some o) ev8 h))
 ·have ev8 := cnd_t ev8
  refine Ops.sg 1 4 ?_
  obtain ⟨v18, ev18, ev8⟩ := bnd_some ev8
  refine Ops.on 5 (fun h0 e0 => (call_ok (E' := EG) (h := h0) (by kernel_rfl) (Args.v (.str a1) (eS a1) (by kernel_rfl) Args.nil) (ok42 m a1 v18 ev18 n (by omega)))) ?_
  refine Ops.sg 2 7 ?_
  exact Ops.st _ (by kernel_rfl) (J25j9 (.v (.str a1)) (dB v18) (dB (!v18)) true (!v18) (some_sub (fun v8 => f25_r2 m a0 a1 v8 = some o) ev8 h))
def f26 (m : Nat) (a0 : ByteArray) : Option Bool :=
 some (!(a0.toList == a0.toList))
noncomputable abbrev X26 (n : Nat) : Cx := cxOf Proofs.Tryd.prog EG 26 n
theorem ok26 (m : Nat) (a0 : ByteArray) (o : Bool) (h : f26 m a0 = some o) (n : Nat) (hn : m + 1 ≤ n) : Fn Proofs.Tryd.prog EG n 26 [.v (eS a0)] (eB o) := by
 obtain ⟨n, rfl⟩ : ∃ q, n = q + 1 := ⟨n - 1, by omega⟩
 unfold f26 at h
 refine Fn.of (by kernel_rfl) (by kernel_rfl) (by kernel_rfl) ⟨(.v (.str a0)) :: u5 [], []⟩ (by kernel_rfl) ?_
 refine Wp.sq ?_
 refine Wp.rg ?_
 refine Ops.sg 1 1 ?_
 refine Ops.dn ?_
 refine seqQ.n ?_
 refine Wp.sq ?_
 refine Wp.rg ?_
 refine Ops.sg 4 4 ?_
 refine Ops.dn ?_
 refine seqQ.n ?_
 refine Wp.ret (by kernel_rfl) ?_
 exact fnQ.r' (X26 n) (fun z => (eB z)) h (RetOk.mk' (dB (!(a0.toList == a0.toList))) (by kernel_rfl) (by kernel_rfl))
def f10_j1 (m : Nat) (v48 : Int) (v49 : Int) (v51 : ByteArray) (v52 : Bool) : Option (Stp (Int × Bool) (Int × Int)) :=
 some (.nxt (v48, v49))
def f10_j2 (m : Nat) (v57 : ByteArray) (v58 : Bool) (v59 : Int) (v60 : Int) : Option (Stp (Int × Bool) (Int × Int)) :=
 f10_j1 m v59 v60 v57 v58
def f10_B3 (m : Nat) (a0 : (List ByteArray)) (a1 : ByteArray) (v37 : Int) (v38 : Int) : Option (Stp (Int × Bool) (Int × Int)) :=
 cnd (decide (v37 < v38))
 (bnd (idx a0 (w64 (Int.fdiv (IntKind.u64.wrap (w64 (v37 + v38))) (2 ^ (min (1 : Int).toNat IntKind.u64.bits))))) fun v57 =>
 bnd (f25 m v57 a1) fun v58 =>
 cnd v58
 (f10_j2 m v57 v58 (w64 (w64 (Int.fdiv (IntKind.u64.wrap (w64 (v37 + v38))) (2 ^ (min (1 : Int).toNat IntKind.u64.bits))) + 1)) v38)
 (f10_j2 m v57 v58 v37 (w64 (Int.fdiv (IntKind.u64.wrap (w64 (v37 + v38))) (2 ^ (min (1 : Int).toNat IntKind.u64.bits))))))
 (some (.brk (v37, v38)))
def f10_r4 (m : Nat) (y66 : Int × Int) (v88 : Bool) : Option (Int × Bool) :=
 some ((y66.1, v88))
def f10 (m : Nat) (a0 : (List ByteArray)) (a1 : ByteArray) : Option (Int × Bool) :=
 brk (iter (fun (y : Int × Int) => f10_B3 m a0 a1 y.1 y.2) m (0, (a0.length : Int))) some fun y66 =>
 bnd (cnd (decide (y66.1 < (a0.length : Int)))
 (bnd (idx a0 y66.1) fun v90 =>
 cnd (v90.toList == a1.toList)
 (some true)
 (bnd (idx a0 y66.1) fun v93 =>
 bnd (f26 m v93) fun v94 =>
 cnd v94
 (bnd (f26 m a1) fun v97 =>
 some v97)
 (some false)))
 (some false)) fun v88 =>
 f10_r4 m y66 v88
noncomputable abbrev X10 (n : Nat) : Cx := cxOf Proofs.Tryd.prog EG 10 n
noncomputable def C10 : Code := bodyOf Proofs.Tryd.prog 10
noncomputable abbrev p10_0 : Code := cR (cR (cR (cR C10)))
abbrev k10_0 : List Nat := [0, 1, 4, 5, 6, 7, 8]
theorem ok10 (m : Nat) (a0 : (List ByteArray)) (a1 : ByteArray) (o : (Int × Bool)) (h : f10 m a0 a1 = some o) (n : Nat) (hn : m + 3 ≤ n) : Fn Proofs.Tryd.prog EG n 10 [.v ((eL eS) a0), .v (eS a1)] (.tuple [eI o.1, eB o.2]) := by
 obtain ⟨n, rfl⟩ : ∃ q, n = q + 1 := ⟨n - 1, by omega⟩
 unfold f10 at h
 refine Fn.of (by kernel_rfl) (by kernel_rfl) (by kernel_rfl) ⟨(dP eS a0) :: (.v (.str a1)) :: u40 (u12 []), []⟩ (by kernel_rfl) ?_
 refine Wp.sq ?_
 refine Wp.rg ?_
 refine Ops.sg 2 2 ?_
 refine Ops.dn ?_
 refine seqQ.n ?_
 refine Wp.sq ?_
 refine Wp.rg ?_
 refine Ops.sg 1 1 ?_
 refine Ops.on 2 (fun h0 e0 => (len_r (T := T) h0 33 9 .plain eS a0 (by kernel_rfl))) ?_
 refine Ops.sg 1 3 ?_
 refine Ops.dn ?_
 refine seqQ.n ?_
 refine Wp.sq ?_
 refine Wp.rg ?_
 refine Ops.sg 3 3 ?_
 refine Ops.dn ?_
 refine seqQ.n ?_
 refine Wp.sq ?_
 refine Wp.block' 0 [0, 1, 4, 5, 6, 7] 0 (by kernel_rfl) ?_
 have hLx65 : ∀ (kx40 : Nat) (v37 : Int) (v38 : Int)  (ox39 : (Int × Bool) ⊕ (Int × Int)), iter (fun (y : Int × Int) => f10_B3 m a0 a1 y.1 y.2) kx40 (v37, v38) = some ox39 → ∀ nx41, kx40 ≤ nx41 → (∀ r, ox39 = .inl r → ∀ σ, RetOk (X10 n) (resOf Proofs.Tryd.prog 10) (.tuple [eI r.1, eB r.2]) σ → (seqQ (X10 n) p10_0 (fnQ (X10 n).E.T (resOf Proofs.Tryd.prog 10) (.tuple [eI o.1, eB o.2]))) .ret σ) → (∀ (y : Int × Int) , ox39 = .inr y → (seqQ (X10 n) p10_0 (fnQ (X10 n).E.T (resOf Proofs.Tryd.prog 10) (.tuple [eI o.1, eB o.2]))) .normal ⟨(dP eS a0) :: (.v (.str a1)) :: q2 ((dI 0) :: (dB false) :: (dI (a0.length : Int)) :: (dI y.1) :: (dI y.2) :: q40 (q5 [])), []⟩) → Lp (X10 n) k10_0 0 (cL (cL (cL (cR (cR (cR C10)))))) nx41 ⟨(dP eS a0) :: (.v (.str a1)) :: q2 ((dI 0) :: (dB false) :: (dI (a0.length : Int)) :: (dI v37) :: (dI v38) :: q40 (q5 [])), []⟩ (blkQ (X10 n) 0 [0, 1, 4, 5, 6, 7] 0 (seqQ (X10 n) p10_0 (fnQ (X10 n).E.T (resOf Proofs.Tryd.prog 10) (.tuple [eI o.1, eB o.2])))) := by
  intro kx40
  induction kx40 with
  | zero => intro v37 v38  ox39 h; exact (iter_zero h).elim
  | succ kx40 ihx42 =>
   intro v37 v38  ox39 h nx41 hnx45 hrx43 hxx44
   obtain ⟨nx41, rfl⟩ : ∃ q, nx41 = q + 1 := ⟨nx41 - 1, by omega⟩
   obtain ⟨sx46, h, hsx47⟩ := iter_some h
   have h : f10_B3 m a0 a1 v37 v38 = some sx46 := h
   unfold f10_B3 at h
   refine Lp.succ ?_
   refine Wp.sq ?_
   refine Wp.sq ?_
   refine Wp.rg ?_
   refine Ops.sg 3 3 ?_
   refine Ops.dn ?_
   refine seqQ.n ?_
   refine Wp.cnd h k10_0 0 (by kernel_rfl) (fun h => ?_) (fun h => ?_)
   ·refine Wp.sk ?_
    refine sqQ.n' ?_
    refine seqQ.n ?_
    have J10j56 : ∀ (v48 : Int) (v49 : Int) (v51 : ByteArray) (v52 : Bool) (d50 : D) (d53 : D) (d54 : D) (d55 : D), f10_j1 m v48 v49 v51 v52 = some sx46 → (lpQ (X10 n) k10_0 0 (cL (cL (cL (cR (cR (cR C10)))))) nx41 (blkQ (X10 n) 0 [0, 1, 4, 5, 6, 7] 0 (seqQ (X10 n) p10_0 (fnQ (X10 n).E.T (resOf Proofs.Tryd.prog 10) (.tuple [eI o.1, eB o.2]))))) .normal ⟨(dP eS a0) :: (.v (.str a1)) :: q2 ((dI 0) :: (dB false) :: (dI (a0.length : Int)) :: (dI v48) :: (dI v49) :: (dI (w64 (Int.fdiv (IntKind.u64.wrap (w64 (v37 + v38))) (2 ^ (min (1 : Int).toNat IntKind.u64.bits))))) :: q3 ((dI v37) :: (dI v38) :: (dB (decide (v37 < v38))) :: (dI v37) :: (dI v38) :: (dI (w64 (v37 + v38))) :: (.v (.int .u64 (IntKind.u64.wrap (w64 (v37 + v38))))) :: (.v (.int .u64 (Int.fdiv (IntKind.u64.wrap (w64 (v37 + v38))) (2 ^ (min (1 : Int).toNat IntKind.u64.bits))))) :: (dI (w64 (Int.fdiv (IntKind.u64.wrap (w64 (v37 + v38))) (2 ^ (min (1 : Int).toNat IntKind.u64.bits))))) :: (dP eS a0) :: (dI (w64 (Int.fdiv (IntKind.u64.wrap (w64 (v37 + v38))) (2 ^ (min (1 : Int).toNat IntKind.u64.bits))))) :: d50 :: (.v (.str v51)) :: (.v (.str a1)) :: (dB v52) :: d53 :: d54 :: d55 :: q23 [])), []⟩ := by
     intro v48 v49 v51 v52 d50 d53 d54 d55 h
     unfold f10_j1 at h
     refine lpQ.n ⟨(dP eS a0) :: (.v (.str a1)) :: q2 ((dI 0) :: (dB false) :: (dI (a0.length : Int)) :: (dI v48) :: (dI v49) :: q40 (q5 [])), []⟩ (by kernel_rfl) ?_
     cases h
     exact ihx42 v48 v49  _ hsx47 _ (by omega) hrx43 hxx44
    refine Wp.block' 1 k10_0 0 (by kernel_rfl) ?_
    refine Wp.sq ?_
    refine Wp.rg ?_
    refine Ops.sg 7 7 ?_
    refine Ops.dn ?_
    refine seqQ.n ?_
    refine Wp.sq ?_
    refine Wp.rg ?_
    refine Ops.sg 2 2 ?_
    obtain ⟨v57, ev57, h⟩ := bnd_some h
    refine Ops.on 3 (fun h0 e0 => (ix_r (T := T) h0 33 9 1 .plain eS a0 (w64 (Int.fdiv (IntKind.u64.wrap (w64 (v37 + v38))) (2 ^ (min (1 : Int).toNat IntKind.u64.bits)))) v57 ev57 (by kernel_rfl) (by kernel_rfl) (fun _ => rfl))) ?_
    refine Ops.sg 2 5 ?_
    obtain ⟨v58, ev58, h⟩ := bnd_some h
    refine Ops.on 6 (fun h0 e0 => (call_ok (E' := EG) (h := h0) (by kernel_rfl) (Args.v (.str v57) (eS v57) (by kernel_rfl) (Args.v (.str a1) (eS a1) (by kernel_rfl) Args.nil)) (ok25 m v57 a1 v58 ev58 n (by omega)))) ?_
    refine Ops.dn ?_
    refine seqQ.n ?_
    have J10j64 : ∀ (v59 : Int) (v60 : Int) (d61 : D) (d62 : D) (d63 : D), f10_j2 m v57 v58 v59 v60 = some sx46 → (blkQ (X10 n) 1 k10_0 0 (lpQ (X10 n) k10_0 0 (cL (cL (cL (cR (cR (cR C10)))))) nx41 (blkQ (X10 n) 0 [0, 1, 4, 5, 6, 7] 0 (seqQ (X10 n) p10_0 (fnQ (X10 n).E.T (resOf Proofs.Tryd.prog 10) (.tuple [eI o.1, eB o.2])))))) .normal ⟨(dP eS a0) :: (.v (.str a1)) :: q2 ((dI 0) :: (dB false) :: (dI (a0.length : Int)) :: (dI v59) :: (dI v60) :: (dI (w64 (Int.fdiv (IntKind.u64.wrap (w64 (v37 + v38))) (2 ^ (min (1 : Int).toNat IntKind.u64.bits))))) :: q3 ((dI v37) :: (dI v38) :: (dB (decide (v37 < v38))) :: (dI v37) :: (dI v38) :: (dI (w64 (v37 + v38))) :: (.v (.int .u64 (IntKind.u64.wrap (w64 (v37 + v38))))) :: (.v (.int .u64 (Int.fdiv (IntKind.u64.wrap (w64 (v37 + v38))) (2 ^ (min (1 : Int).toNat IntKind.u64.bits))))) :: (dI (w64 (Int.fdiv (IntKind.u64.wrap (w64 (v37 + v38))) (2 ^ (min (1 : Int).toNat IntKind.u64.bits))))) :: (dP eS a0) :: (dI (w64 (Int.fdiv (IntKind.u64.wrap (w64 (v37 + v38))) (2 ^ (min (1 : Int).toNat IntKind.u64.bits))))) :: (.vptr [(.str v57)]) :: (.v (.str v57)) :: (.v (.str a1)) :: (dB v58) :: d61 :: d62 :: d63 :: q23 [])), []⟩ := by
     intro v59 v60 d61 d62 d63 h
     unfold f10_j2 at h
     refine blkQ.n ⟨(dP eS a0) :: (.v (.str a1)) :: q2 ((dI 0) :: (dB false) :: (dI (a0.length : Int)) :: (dI v59) :: (dI v60) :: (dI (w64 (Int.fdiv (IntKind.u64.wrap (w64 (v37 + v38))) (2 ^ (min (1 : Int).toNat IntKind.u64.bits))))) :: q3 ((dI v37) :: (dI v38) :: (dB (decide (v37 < v38))) :: (dI v37) :: (dI v38) :: (dI (w64 (v37 + v38))) :: (.v (.int .u64 (IntKind.u64.wrap (w64 (v37 + v38))))) :: (.v (.int .u64 (Int.fdiv (IntKind.u64.wrap (w64 (v37 + v38))) (2 ^ (min (1 : Int).toNat IntKind.u64.bits))))) :: (dI (w64 (Int.fdiv (IntKind.u64.wrap (w64 (v37 + v38))) (2 ^ (min (1 : Int).toNat IntKind.u64.bits))))) :: (dP eS a0) :: (dI (w64 (Int.fdiv (IntKind.u64.wrap (w64 (v37 + v38))) (2 ^ (min (1 : Int).toNat IntKind.u64.bits))))) :: (.vptr [(.str v57)]) :: (.v (.str v57)) :: (.v (.str a1)) :: (dB v58) :: d61 :: d62 :: d63 :: q23 [])), []⟩ (by kernel_rfl) ?_
     exact J10j56 v59 v60 v57 v58 _ _ _ _ h
    refine Wp.cnd h k10_0 0 (by kernel_rfl) (fun h => ?_) (fun h => ?_)
    ·refine Wp.rg ?_
     refine Ops.sg 3 3 ?_
     refine Ops.dn ?_
     refine sqQ.n ⟨(dP eS a0) :: (.v (.str a1)) :: q2 ((dI 0) :: (dB false) :: (dI (a0.length : Int)) :: (dI (w64 (w64 (Int.fdiv (IntKind.u64.wrap (w64 (v37 + v38))) (2 ^ (min (1 : Int).toNat IntKind.u64.bits))) + 1))) :: (dI v38) :: (dI (w64 (Int.fdiv (IntKind.u64.wrap (w64 (v37 + v38))) (2 ^ (min (1 : Int).toNat IntKind.u64.bits))))) :: q3 ((dI v37) :: (dI v38) :: (dB (decide (v37 < v38))) :: (dI v37) :: (dI v38) :: (dI (w64 (v37 + v38))) :: (.v (.int .u64 (IntKind.u64.wrap (w64 (v37 + v38))))) :: (.v (.int .u64 (Int.fdiv (IntKind.u64.wrap (w64 (v37 + v38))) (2 ^ (min (1 : Int).toNat IntKind.u64.bits))))) :: (dI (w64 (Int.fdiv (IntKind.u64.wrap (w64 (v37 + v38))) (2 ^ (min (1 : Int).toNat IntKind.u64.bits))))) :: (dP eS a0) :: (dI (w64 (Int.fdiv (IntKind.u64.wrap (w64 (v37 + v38))) (2 ^ (min (1 : Int).toNat IntKind.u64.bits))))) :: (.vptr [(.str v57)]) :: (.v (.str v57)) :: (.v (.str a1)) :: (dB v58) :: (dI (w64 (Int.fdiv (IntKind.u64.wrap (w64 (v37 + v38))) (2 ^ (min (1 : Int).toNat IntKind.u64.bits))))) :: (dI (w64 (w64 (Int.fdiv (IntKind.u64.wrap (w64 (v37 + v38))) (2 ^ (min (1 : Int).toNat IntKind.u64.bits))) + 1))) :: q24 [])), []⟩ (by kernel_rfl) ?_
     exact J10j64 (w64 (w64 (Int.fdiv (IntKind.u64.wrap (w64 (v37 + v38))) (2 ^ (min (1 : Int).toNat IntKind.u64.bits))) + 1)) v38 _ _ _ h
    ·refine Wp.rg ?_
     refine Ops.sg 2 2 ?_
     refine Ops.dn ?_
     refine sqQ.n ⟨(dP eS a0) :: (.v (.str a1)) :: q2 ((dI 0) :: (dB false) :: (dI (a0.length : Int)) :: (dI v37) :: (dI (w64 (Int.fdiv (IntKind.u64.wrap (w64 (v37 + v38))) (2 ^ (min (1 : Int).toNat IntKind.u64.bits))))) :: (dI (w64 (Int.fdiv (IntKind.u64.wrap (w64 (v37 + v38))) (2 ^ (min (1 : Int).toNat IntKind.u64.bits))))) :: q3 ((dI v37) :: (dI v38) :: (dB (decide (v37 < v38))) :: (dI v37) :: (dI v38) :: (dI (w64 (v37 + v38))) :: (.v (.int .u64 (IntKind.u64.wrap (w64 (v37 + v38))))) :: (.v (.int .u64 (Int.fdiv (IntKind.u64.wrap (w64 (v37 + v38))) (2 ^ (min (1 : Int).toNat IntKind.u64.bits))))) :: (dI (w64 (Int.fdiv (IntKind.u64.wrap (w64 (v37 + v38))) (2 ^ (min (1 : Int).toNat IntKind.u64.bits))))) :: (dP eS a0) :: (dI (w64 (Int.fdiv (IntKind.u64.wrap (w64 (v37 + v38))) (2 ^ (min (1 : Int).toNat IntKind.u64.bits))))) :: (.vptr [(.str v57)]) :: (.v (.str v57)) :: (.v (.str a1)) :: (dB v58) :: q2 ((dI (w64 (Int.fdiv (IntKind.u64.wrap (w64 (v37 + v38))) (2 ^ (min (1 : Int).toNat IntKind.u64.bits))))) :: q23 []))), []⟩ (by kernel_rfl) ?_
     exact J10j64 v37 (w64 (Int.fdiv (IntKind.u64.wrap (w64 (v37 + v38))) (2 ^ (min (1 : Int).toNat IntKind.u64.bits)))) _ _ _ h
   ·refine Wp.exit (id := 0) (by kernel_rfl) ?_
    refine sqQ.x ?_
    refine seqQ.x ?_
    cases h
    refine lpQ.x ?_
    refine blkQ.x ⟨(dP eS a0) :: (.v (.str a1)) :: q2 ((dI 0) :: (dB false) :: (dI (a0.length : Int)) :: (dI v37) :: (dI v38) :: q40 (q5 [])), []⟩ (by kernel_rfl) ?_
    exact hxx44 (v37, v38)  hsx47
 refine Wp.loop' k10_0 0 (by kernel_rfl) ⟨(dP eS a0) :: (.v (.str a1)) :: q2 ((dI 0) :: (dB false) :: (dI (a0.length : Int)) :: (dI 0) :: (dI (a0.length : Int)) :: q40 (q5 [])), []⟩ (by kernel_rfl) ?_
 rcases brk_some h with ⟨r67, er67, h⟩ | ⟨y66, ey66, h⟩
 ·refine hLx65 _ 0 (a0.length : Int)  _ er67 n (by omega) (fun r er σ hσ => ?_) (fun y  ey => by cases ey)
  cases er
  refine seqQ.r ?_
  exact fnQ.r' (X10 n) (fun z => (.tuple [eI z.1, eB z.2])) h hσ
 ·refine hLx65 _ 0 (a0.length : Int)  _ ey66 n (by omega) (fun r er => by cases er) (fun y  ey => ?_)
  cases ey
  refine seqQ.n ?_
  refine Wp.sq ?_
  refine Wp.rg ?_
  refine Ops.sg 5 5 ?_
  refine Ops.hv (fun KQ => ∀ (d70 d71 d72 d73 d74 d75 d76 d77 d78 d79 d80 d81 d82 d83 d84 d85 d86 : D) (v87 : Bool) (v88 : Bool), f10_r4 m y66 v88 = some o → KQ 23 ⟨(dP eS a0) :: (.v (.str a1)) :: q2 ((dI 0) :: (dB false) :: (dI (a0.length : Int)) :: (dI y66.1) :: (dI y66.2) :: q22 ((dI y66.1) :: (dI y66.1) :: (dI (a0.length : Int)) :: (dB v87) :: (dB v87) :: d70 :: d71 :: d72 :: d73 :: d74 :: d75 :: d76 :: d77 :: d78 :: d79 :: d80 :: d81 :: d82 :: d83 :: d84 :: d85 :: d86 :: (dB v88) :: [])), []⟩) ?_ fun J10j89 => ?_
  ·intro d70 d71 d72 d73 d74 d75 d76 d77 d78 d79 d80 d81 d82 d83 d84 d85 d86 v87 v88 h
   unfold f10_r4 at h
   refine Ops.sg 2 25 ?_
   refine Ops.dn ?_
   refine seqQ.n ?_
   refine Wp.ret (by kernel_rfl) ?_
   exact fnQ.r' (X10 n) (fun z => (.tuple [eI z.1, eB z.2])) h (RetOk.mk' (.v (.tuple [(vI y66.1), (vB v88)])) (by kernel_rfl) (by kernel_rfl))
  obtain ⟨v88, ev88, h⟩ := bnd_some h
  refine Ops.hv (fun KQ => ∀ v68 : Bool, (cnd v68 (bnd (idx a0 y66.1) fun v90 => cnd (v90.toList == a1.toList) (some true) (bnd (idx a0 y66.1) fun v93 => bnd (f26 m v93) fun v94 => cnd v94 (bnd (f26 m a1) fun v97 => some v97) (some false))) (some false)) = some v88 → KQ 5 ⟨(dP eS a0) :: (.v (.str a1)) :: q2 ((dI 0) :: (dB false) :: (dI (a0.length : Int)) :: (dI y66.1) :: (dI y66.2) :: q22 ((dI y66.1) :: (dI y66.1) :: (dI (a0.length : Int)) :: (dB v68) :: (dB v68) :: q18 [])), []⟩) ?_ fun G10g69 => Ops.st _ (by kernel_rfl) (G10g69 (decide (y66.1 < (a0.length : Int))) ev88)
  intro v68 ev88
  cases v68
  ·have ev88 := cnd_f ev88
   refine Ops.sg 18 23 ?_
   exact Ops.st _ (by kernel_rfl) (J10j89 U U U U U U U U U U U U U U U U U false false (some_sub (fun v88 => f10_r4 m y66 v88 = some o) ev88 h))
  ·have ev88 := cnd_t ev88
   refine Ops.sg 2 7 ?_
   obtain ⟨v90, ev90, ev88⟩ := bnd_some ev88
   refine Ops.on 8 (fun h0 e0 => (ix_r (T := T) h0 33 9 1 .plain eS a0 y66.1 v90 ev90 (by kernel_rfl) (by kernel_rfl) (fun _ => rfl))) ?_
   refine Ops.sg 4 12 ?_
   refine Ops.hv (fun KQ => ∀ v91 : Bool, (cnd v91 (some true) (bnd (idx a0 y66.1) fun v93 => bnd (f26 m v93) fun v94 => cnd v94 (bnd (f26 m a1) fun v97 => some v97) (some false))) = some v88 → KQ 12 ⟨(dP eS a0) :: (.v (.str a1)) :: q2 ((dI 0) :: (dB false) :: (dI (a0.length : Int)) :: (dI y66.1) :: (dI y66.2) :: q22 ((dI y66.1) :: (dI y66.1) :: (dI (a0.length : Int)) :: (dB true) :: (dB true) :: (dP eS a0) :: (dI y66.1) :: (.vptr [(.str v90)]) :: (.v (.str v90)) :: (.v (.str a1)) :: (dB v91) :: (dB v91) :: q11 [])), []⟩) ?_ fun G10g92 => Ops.st _ (by kernel_rfl) (G10g92 (v90.toList == a1.toList) ev88)
   intro v91 ev88
   cases v91
   ·have ev88 := cnd_f ev88
    refine Ops.sg 2 14 ?_
    obtain ⟨v93, ev93, ev88⟩ := bnd_some ev88
    refine Ops.on 15 (fun h0 e0 => (ix_r (T := T) h0 33 9 1 .plain eS a0 y66.1 v93 ev93 (by kernel_rfl) (by kernel_rfl) (fun _ => rfl))) ?_
    refine Ops.sg 1 16 ?_
    obtain ⟨v94, ev94, ev88⟩ := bnd_some ev88
    refine Ops.on 17 (fun h0 e0 => (call_ok (E' := EG) (h := h0) (by kernel_rfl) (Args.v (.str v93) (eS v93) (by kernel_rfl) Args.nil) (ok26 m v93 v94 ev94 n (by omega)))) ?_
    refine Ops.sg 1 18 ?_
    refine Ops.hv (fun KQ => ∀ v95 : Bool, (cnd v95 (bnd (f26 m a1) fun v97 => some v97) (some false)) = some v88 → KQ 18 ⟨(dP eS a0) :: (.v (.str a1)) :: q2 ((dI 0) :: (dB false) :: (dI (a0.length : Int)) :: (dI y66.1) :: (dI y66.2) :: q22 ((dI y66.1) :: (dI y66.1) :: (dI (a0.length : Int)) :: (dB true) :: (dB true) :: (dP eS a0) :: (dI y66.1) :: (.vptr [(.str v90)]) :: (.v (.str v90)) :: (.v (.str a1)) :: (dB false) :: (dB false) :: (dP eS a0) :: (dI y66.1) :: (.vptr [(.str v93)]) :: (.v (.str v93)) :: (dB v95) :: (dB v95) :: q5 [])), []⟩) ?_ fun G10g96 => Ops.st _ (by kernel_rfl) (G10g96 v94 ev88)
    intro v95 ev88
    cases v95
    ·have ev88 := cnd_f ev88
     refine Ops.sg 5 23 ?_
     exact Ops.st _ (by kernel_rfl) (J10j89 (dP eS a0) (dI y66.1) (.vptr [(.str v90)]) (.v (.str v90)) (.v (.str a1)) (dB false) (dB false) (dP eS a0) (dI y66.1) (.vptr [(.str v93)]) (.v (.str v93)) (dB false) (dB false) U U (dB false) (dB false) true false (some_sub (fun v88 => f10_r4 m y66 v88 = some o) ev88 h))
    ·have ev88 := cnd_t ev88
     refine Ops.sg 1 19 ?_
     obtain ⟨v97, ev97, ev88⟩ := bnd_some ev88
     refine Ops.on 20 (fun h0 e0 => (call_ok (E' := EG) (h := h0) (by kernel_rfl) (Args.v (.str a1) (eS a1) (by kernel_rfl) Args.nil) (ok26 m a1 v97 ev97 n (by omega)))) ?_
     refine Ops.sg 3 23 ?_
     exact Ops.st _ (by kernel_rfl) (J10j89 (dP eS a0) (dI y66.1) (.vptr [(.str v90)]) (.v (.str v90)) (.v (.str a1)) (dB false) (dB false) (dP eS a0) (dI y66.1) (.vptr [(.str v93)]) (.v (.str v93)) (dB true) (dB true) (.v (.str a1)) (dB v97) (dB v97) (dB v97) true v97 (some_sub (fun v88 => f10_r4 m y66 v88 = some o) ev88 h))
   ·have ev88 := cnd_t ev88
    refine Ops.sg 11 23 ?_
    exact Ops.st _ (by kernel_rfl) (J10j89 (dP eS a0) (dI y66.1) (.vptr [(.str v90)]) (.v (.str v90)) (.v (.str a1)) (dB true) (dB true) U U U U U U U U U (dB true) true true (some_sub (fun v88 => f10_r4 m y66 v88 = some o) ev88 h))
def f4_B1 (m : Nat) (v2 : (List ByteArray)) (v736 : S34) (v746 : (List Int)) (v747 : Int) : Option (Stp (S27 × S29) ((List Int) × Int)) :=
 cnd (decide (v747 < (v736.fTags.length : Int)))
 (bnd (idx v736.fTags v747) fun v757 =>
 bnd (f10 m v2 v757) fun v758 =>
 bnd (app 8 v746 ([w64 (983040 + v758.1)])) fun v759 =>
 some (.nxt (v759, w64 (v747 + 1))))
 (some (.brk (v746, v747)))
def f4_j2 (m : Nat) (v791 : Int) (v792 : Int) (v793 : Int) (v795 : (List S40)) (v805 : Int) (v807 : Int) (v809 : Int) (v810 : Int) : Option (Stp (S27 × S29) (Int × Int × Int × Int × (List S40))) :=
 bnd (app 40 v795 ([(⟨v791, v810, v805, v807, v792⟩ : S40)])) fun v812 =>
 some (.nxt (v810, 0, w64 (v793 + 1), v809, v812))
def f4_j3 (m : Nat) (y761 : (List Int) × Int) (v763 : ((List Int) × S29)) (v764 : Int) (v791 : Int) (v792 : Int) (v793 : Int) (v794 : Int) (v795 : (List S40)) (v805 : Int) (v807 : Int) : Option (Stp (S27 × S29) (Int × Int × Int × Int × (List S40))) :=
 cnd (decide (v793 < w64 ((if 1 > (if (v763.1.length : Int) > (y761.1.length : Int) then (v763.1.length : Int) else (y761.1.length : Int)) then 1 else (if (v763.1.length : Int) > (y761.1.length : Int) then (v763.1.length : Int) else (y761.1.length : Int))) - 1)))
 (f4_j2 m v791 v792 v793 v795 v805 v807 (w64 (v794 + 1)) v794)
 (f4_j2 m v791 v792 v793 v795 v805 v807 v794 v764)
def f4_j4 (m : Nat) (y761 : (List Int) × Int) (v763 : ((List Int) × S29)) (v764 : Int) (v791 : Int) (v792 : Int) (v793 : Int) (v794 : Int) (v795 : (List S40)) (v805 : Int) : Option (Stp (S27 × S29) (Int × Int × Int × Int × (List S40))) :=
 cnd (decide (v793 < (v763.1.length : Int)))
 (bnd (idx v763.1 v793) fun v813 =>
 f4_j3 m y761 v763 v764 v791 v792 v793 v794 v795 v805 v813)
 (f4_j3 m y761 v763 v764 v791 v792 v793 v794 v795 v805 0)
def f4_B5 (m : Nat) (y761 : (List Int) × Int) (v763 : ((List Int) × S29)) (v764 : Int) (v791 : Int) (v792 : Int) (v793 : Int) (v794 : Int) (v795 : (List S40)) : Option (Stp (S27 × S29) (Int × Int × Int × Int × (List S40))) :=
 cnd (decide (v793 < (if 1 > (if (v763.1.length : Int) > (y761.1.length : Int) then (v763.1.length : Int) else (y761.1.length : Int)) then 1 else (if (v763.1.length : Int) > (y761.1.length : Int) then (v763.1.length : Int) else (y761.1.length : Int)))))
 (cnd (decide (v793 < (y761.1.length : Int)))
 (bnd (idx y761.1 v793) fun v814 =>
 f4_j4 m y761 v763 v764 v791 v792 v793 v794 v795 v814)
 (f4_j4 m y761 v763 v764 v791 v792 v793 v794 v795 0))
 (some (.brk (v791, v792, v793, v794, v795)))
def f4_j6 (m : Nat) (v542 : Int) (v724 : Int) (v725 : Int) (v726 : (List S40)) (v736 : S34) (y761 : (List Int) × Int) (v763 : ((List Int) × S29)) (v764 : Int) : Option (Stp (S27 × S29) (Int × Int × (List S40))) :=
 brk (iter (fun (y : Int × Int × Int × Int × (List S40)) => f4_B5 m y761 v763 v764 y.1 y.2.1 y.2.2.1 y.2.2.2.1 y.2.2.2.2) m (v542, v736.fWeight, 0, v725, v726)) (fun r => some (.ret r)) fun y816 =>
 cnd (decide (y816.2.2.2.1 > 400))
 (bnd (f11 m 17 (-1)) fun v818 =>
 some (.ret (((⟨0, [], []⟩ : S27), v818))))
 (some (.nxt (w64 (v724 + 1), y816.2.2.2.1, y816.2.2.2.2)))
def f4_B7 (m : Nat) (a0 : S23) (v2 : (List ByteArray)) (v542 : Int) (v554 : S37) (v724 : Int) (v725 : Int) (v726 : (List S40)) : Option (Stp (S27 × S29) (Int × Int × (List S40))) :=
 cnd (decide (v724 < (v554.fItems.length : Int)))
 (bnd (idx v554.fItems v724) fun v736 =>
 bnd (f9 m v736.fBase) fun v737 =>
 brk (iter (fun (y : (List Int) × Int) => f4_B1 m v2 v736 y.1 y.2) m (v737.1, 0)) (fun r => some (.ret r)) fun y761 =>
 bnd (f9 m v736.fForm) fun v763 =>
 cnd (decide (v736.fNext ≥ 0))
 (f4_j6 m v542 v724 v725 v726 v736 y761 v763 v736.fNext)
 (f4_j6 m v542 v724 v725 v726 v736 y761 v763 (a0.fClasses.length : Int)))
 (some (.brk (v724, v725, v726)))
def f4_B8 (m : Nat) (a0 : S23) (v2 : (List ByteArray)) (v542 : Int) (v543 : Int) (v544 : (List S40)) : Option (Stp (S27 × S29) (Int × Int × (List S40))) :=
 cnd (decide (v542 < (a0.fClasses.length : Int)))
 (bnd (idx a0.fClasses v542) fun v554 =>
 brk (iter (fun (y : Int × Int × (List S40)) => f4_B7 m a0 v2 v542 v554 y.1 y.2.1 y.2.2) m (0, v543, v544)) (fun r => some (.ret r)) fun y820 =>
 some (.nxt (w64 (v542 + 1), y820.2.1, y820.2.2)))
 (some (.brk (v542, v543, v544)))
def f4 (m : Nat) (a0 : S23) : Option (S27 × S29) :=
 bnd (f7 m a0) fun v1 =>
 cnd (!((v1.fCode == 0) && ((v1.fIndex == 0) && true)))
 (some (((⟨0, [], []⟩ : S27), v1)))
 (bnd (f8 m a0) fun v2 =>
 brk (iter (fun (y : Int × Int × (List S40)) => f4_B8 m a0 v2 y.1 y.2.1 y.2.2) m (0, w64 ((a0.fClasses.length : Int) + 1), [])) some fun y823 =>
 bnd (srt12 y823.2.2) fun v825 =>
 bnd (cmpct14 v825) fun v826 =>
 cnd (decide ((v826.length : Int) > 2000))
 (bnd (f11 m 17 (-1)) fun v827 =>
 some (((⟨0, [], []⟩ : S27), v827)))
 (some (((⟨y823.2.1, v826, [(⟨(a0.fClasses.length : Int), 0⟩ : S42)]⟩ : S27), (⟨0, 0⟩ : S29)))))
noncomputable abbrev X4 (n : Nat) : Cx := cxOf Proofs.Tryd.prog EG 4 n
noncomputable def C4 : Code := bodyOf Proofs.Tryd.prog 4
noncomputable abbrev p4_0 : Code := cR (cR (cR (cR (cR (cR C4)))))
noncomputable abbrev p4_1 : Code := cL (cL (cR (cL (cR (cR (cR (cR (cR C4))))))))
noncomputable abbrev p4_2 : Code := cR (cR (cR p4_1))
noncomputable abbrev p4_3 : Code := cL (cL (cR (cR (cL (cL (cR (cR p4_1)))))))
noncomputable abbrev p4_4 : Code := cR (cR (cR p4_3))
noncomputable abbrev p4_5 : Code := cR (cR (cR (cL (cL (cR (cR p4_3))))))
noncomputable abbrev p4_6 : Code := cL (cL (cR (cL (cR (cR (cL (cL (cR (cR p4_3)))))))))
noncomputable abbrev p4_7 : Code := cR (cR (cR p4_5))
noncomputable abbrev p4_8 : Code := cR (cR (cR p4_7))
noncomputable abbrev p4_9 : Code := cL (cL (cR (cL (cR (cR p4_7)))))
noncomputable abbrev p4_10 : Code := cR (cR (cR p4_9))
noncomputable abbrev p4_11 : Code := cR (cR (cR (cL (cL (cR (cR p4_9))))))
noncomputable abbrev p4_12 : Code := cR p4_11
noncomputable abbrev p4_13 : Code := cR p4_12
abbrev b4_0 (w0 : S23) : AObj := .cells [(dP e37 w0.fClasses)]
abbrev b4_1 : AObj := .cells [(dI 0), (.v (.sl .nil (List.map e40 []))), (.v (.sl .nil (List.map e42 [])))]
abbrev b4_2 : AObj := .cells [(dI 0), (dI 0)]
abbrev b4_3 (w0 : S29) : AObj := .cells [(dI w0.fCode), (dI w0.fIndex)]
abbrev b4_4 (w0 : S37) : AObj := .cells [(.v (.str w0.fName)), (dP e34 w0.fItems)]
abbrev b4_5 (w0 : S34) : AObj := .cells [(.v (.str w0.fBase)), (.v (.str w0.fForm)), (dP eS w0.fTags), (dI w0.fNext), (dI w0.fWeight)]
abbrev b4_6 (w0 : ((List Int) × S29)) : AObj := .cells [(dI w0.2.fCode), (dI w0.2.fIndex)]
abbrev b4_7 (w0 : Int) (w1 : Int) (w2 : Int) (w3 : Int) (w4 : Int) : AObj := .cells [(dI w0), (dI w1), (dI w2), (dI w3), (dI w4)]
abbrev k4_0 : List Nat := [2, 3, 5, 6, 7, 8, 45, 46, 47, 53, 54, 55]
abbrev k4_1 : List Nat := [2, 3, 5, 6, 7, 45, 46, 47]
abbrev k4_2 : List Nat := [2, 3, 5, 6, 7, 8, 12, 18, 20, 21, 22, 23, 45, 46, 47, 53, 54, 55, 104, 105]
abbrev k4_3 : List Nat := [2, 3, 5, 6, 7, 8, 12, 18, 20, 21, 24, 25, 45, 46, 47, 53, 54, 55, 104, 105]
abbrev k4_4 : List Nat := [2, 3, 5, 6, 7, 8, 11, 12, 45, 46, 47, 53, 54, 55, 66, 67, 68]
theorem f4_hLx815 (m : Nat) (a0 : S23) (o : (S27 × S29)) (n : Nat) (hn : m + 6 ≤ n + 1) (y761 : (List Int) × Int) (v763 : ((List Int) × S29)) (v764 : Int) (nx729 : Nat) (nx547 : Nat) (v2 : (List ByteArray)) (v542 : Int) (v554 : S37) (v724 : Int) (v1 : S29) (v736 : S34) (v737 : ((List Int) × S29)) : ∀ (kx797 : Nat) (v791 : Int) (v792 : Int) (v793 : Int) (v794 : Int) (v795 : (List S40))  (ox796 : (S27 × S29) ⊕ (Int × Int × Int × Int × (List S40))), iter (fun (y : Int × Int × Int × Int × (List S40)) => f4_B5 m y761 v763 v764 y.1 y.2.1 y.2.2.1 y.2.2.2.1 y.2.2.2.2) kx797 (v791, v792, v793, v794, v795) = some ox796 → ∀ nx798, kx797 ≤ nx798 → (∀ r, ox796 = .inl r → ∀ σ, RetOk (X4 n) (resOf Proofs.Tryd.prog 4) (.tuple [e27 r.1, e29 r.2]) σ → (seqQ (X4 n) p4_8 (blkQ (X4 n) 3 k4_0 16 (seqQ (X4 n) p4_4 (lpQ (X4 n) k4_0 12 p4_3 nx729 (blkQ (X4 n) 2 k4_1 12 (blkQ (X4 n) 1 k4_1 11 (seqQ (X4 n) p4_2 (lpQ (X4 n) k4_1 7 p4_1 nx547 (blkQ (X4 n) 0 [2, 3, 7] 7 (seqQ (X4 n) p4_0 (fnQ (X4 n).E.T (resOf Proofs.Tryd.prog 4) (.tuple [e27 o.1, e29 o.2])))))))))))) .ret σ) → (∀ (y : Int × Int × Int × Int × (List S40)) , ox796 = .inr y → (seqQ (X4 n) p4_8 (blkQ (X4 n) 3 k4_0 16 (seqQ (X4 n) p4_4 (lpQ (X4 n) k4_0 12 p4_3 nx729 (blkQ (X4 n) 2 k4_1 12 (blkQ (X4 n) 1 k4_1 11 (seqQ (X4 n) p4_2 (lpQ (X4 n) k4_1 7 p4_1 nx547 (blkQ (X4 n) 0 [2, 3, 7] 7 (seqQ (X4 n) p4_0 (fnQ (X4 n).E.T (resOf Proofs.Tryd.prog 4) (.tuple [e27 o.1, e29 o.2])))))))))))) .normal ⟨q2 ((.ptr 1 0) :: (.ptr 2 0) :: q1 ((dP eS v2) :: (dI (a0.fClasses.length : Int)) :: (.ptr 6 0) :: (dI v542) :: q36 ((dP e37 a0.fClasses) :: (dI (a0.fClasses.length : Int)) :: (dI v542) :: q5 ((dP e34 v554.fItems) :: (dI (v554.fItems.length : Int)) :: (dI v724) :: q40 (q40 (q36 [])))))), [(b4_0 a0), b4_1, b4_2, (b4_3 v1), .dead, .dead, (.cells [(dI y.2.2.2.1), (rowF .nil 26 (List.map e40 y.2.2.2.2)), (.v (.sl .nonfull (List.map e42 ([(⟨(a0.fClasses.length : Int), 0⟩ : S42)]))))]), .dead, .dead, .dead, .dead, (b4_4 v554), .dead, .dead, .dead, .dead, (b4_5 v736), .dead, (b4_6 v737), .dead, .dead, (appO 1 (List.map eI v763.1)), (b4_6 v763), .dead, .dead, (appO 1 (List.map eI y761.1)), (rowO 5 (List.map e40 y.2.2.2.2))]⟩) → Lp (X4 n) k4_2 25 p4_9 nx798 ⟨q2 ((.ptr 1 0) :: (.ptr 2 0) :: q1 ((dP eS v2) :: (dI (a0.fClasses.length : Int)) :: (.ptr 6 0) :: (dI v542) :: q3 ((appD 25 (List.map eI y761.1)) :: q5 ((appD 21 (List.map eI v763.1)) :: q1 ((dI v764) :: (dI (if 1 > (if (v763.1.length : Int) > (y761.1.length : Int) then (v763.1.length : Int) else (y761.1.length : Int)) then 1 else (if (v763.1.length : Int) > (y761.1.length : Int) then (v763.1.length : Int) else (y761.1.length : Int)))) :: (dI v791) :: (dI v792) :: q21 ((dP e37 a0.fClasses) :: (dI (a0.fClasses.length : Int)) :: (dI v542) :: q5 ((dP e34 v554.fItems) :: (dI (v554.fItems.length : Int)) :: (dI v724) :: q40 (q8 ((dI (if 1 > (if (v763.1.length : Int) > (y761.1.length : Int) then (v763.1.length : Int) else (y761.1.length : Int)) then 1 else (if (v763.1.length : Int) > (y761.1.length : Int) then (v763.1.length : Int) else (y761.1.length : Int)))) :: (dI v793) :: q40 (q26 [])))))))))), [(b4_0 a0), b4_1, b4_2, (b4_3 v1), .dead, .dead, (.cells [(dI v794), (rowF .nil 26 (List.map e40 v795)), (.v (.sl .nonfull (List.map e42 ([(⟨(a0.fClasses.length : Int), 0⟩ : S42)]))))]), .dead, .dead, .dead, .dead, (b4_4 v554), .dead, .dead, .dead, .dead, (b4_5 v736), .dead, (b4_6 v737), .dead, .dead, (appO 1 (List.map eI v763.1)), (b4_6 v763), .dead, .dead, (appO 1 (List.map eI y761.1)), (rowO 5 (List.map e40 v795))]⟩ (blkQ (X4 n) 6 k4_0 25 (seqQ (X4 n) p4_8 (blkQ (X4 n) 3 k4_0 16 (seqQ (X4 n) p4_4 (lpQ (X4 n) k4_0 12 p4_3 nx729 (blkQ (X4 n) 2 k4_1 12 (blkQ (X4 n) 1 k4_1 11 (seqQ (X4 n) p4_2 (lpQ (X4 n) k4_1 7 p4_1 nx547 (blkQ (X4 n) 0 [2, 3, 7] 7 (seqQ (X4 n) p4_0 (fnQ (X4 n).E.T (resOf Proofs.Tryd.prog 4) (.tuple [e27 o.1, e29 o.2]))))))))))))) := by
 intro kx797
 induction kx797 with
 | zero => intro v791 v792 v793 v794 v795  ox796 h; exact (iter_zero h).elim
 | succ kx797 ihx799 =>
  intro v791 v792 v793 v794 v795  ox796 h nx798 hnx802 hrx800 hxx801
  obtain ⟨nx798, rfl⟩ : ∃ q, nx798 = q + 1 := ⟨nx798 - 1, by omega⟩
  obtain ⟨sx803, h, hsx804⟩ := iter_some h
  have h : f4_B5 m y761 v763 v764 v791 v792 v793 v794 v795 = some sx803 := h
  unfold f4_B5 at h
  refine Lp.succ ?_
  refine Wp.sq ?_
  refine Wp.rg ?_
  refine Ops.sg 1 1 ?_
  refine Ops.dn ?_
  refine seqQ.n ?_
  refine Wp.sq ?_
  refine Wp.cnd h k4_2 27 (by kernel_rfl) (fun h => ?_) (fun h => ?_)
  ·refine Wp.sk ?_
   refine sqQ.n ⟨q2 ((.ptr 1 0) :: (.ptr 2 0) :: q1 ((dP eS v2) :: (dI (a0.fClasses.length : Int)) :: (.ptr 6 0) :: (dI v542) :: q3 ((appD 27 (List.map eI y761.1)) :: q5 ((appD 21 (List.map eI v763.1)) :: q1 ((dI v764) :: (dI (if 1 > (if (v763.1.length : Int) > (y761.1.length : Int) then (v763.1.length : Int) else (y761.1.length : Int)) then 1 else (if (v763.1.length : Int) > (y761.1.length : Int) then (v763.1.length : Int) else (y761.1.length : Int)))) :: (dI v791) :: (dI v792) :: q21 ((dP e37 a0.fClasses) :: (dI (a0.fClasses.length : Int)) :: (dI v542) :: q5 ((dP e34 v554.fItems) :: (dI (v554.fItems.length : Int)) :: (dI v724) :: q40 (q8 ((dI (if 1 > (if (v763.1.length : Int) > (y761.1.length : Int) then (v763.1.length : Int) else (y761.1.length : Int)) then 1 else (if (v763.1.length : Int) > (y761.1.length : Int) then (v763.1.length : Int) else (y761.1.length : Int)))) :: (dI v793) :: q40 (q26 [])))))))))), [(b4_0 a0), b4_1, b4_2, (b4_3 v1), .dead, .dead, (.cells [(dI v794), (rowF .nil 28 (List.map e40 v795)), (.v (.sl .nonfull (List.map e42 ([(⟨(a0.fClasses.length : Int), 0⟩ : S42)]))))]), .dead, .dead, .dead, .dead, (b4_4 v554), .dead, .dead, .dead, .dead, (b4_5 v736), .dead, (b4_6 v737), .dead, .dead, (appO 1 (List.map eI v763.1)), (b4_6 v763), .dead, .dead, .dead, .dead, (appO 1 (List.map eI y761.1)), (rowO 5 (List.map e40 v795))]⟩ (by generalize y761.1 = z0; generalize v763.1 = z1; generalize v795 = z2; cases z0 <;> cases z1 <;> cases z2 <;> (as_aux_lemma => kernel_rfl)) ?_
   refine seqQ.n ?_
   refine Wp.sq ?_
   refine Wp.block' 7 k4_2 29 (by kernel_rfl) ?_
   refine Wp.sq ?_
   refine Wp.rg ?_
   refine Ops.sg 2 2 ?_
   refine Ops.dn ?_
   refine seqQ.n ?_
   refine Wp.sq ?_
   refine Wp.rg ?_
   refine Ops.sg 6 6 ?_
   refine Ops.dn ?_
   refine seqQ.n ?_
   refine Wp.sq ?_
   refine Wp.sq ?_
   refine Wp.rg ?_
   refine Ops.sg 2 2 ?_
   refine Ops.on 3 (fun h0 e0 => (len_a (T := T) (g := .nil) h0 47 3 27 eI y761.1 (by kernel_rfl))) ?_
   refine Ops.sg 1 4 ?_
   refine Ops.dn ?_
   refine seqQ.n ?_
   have J4j806 : ∀ (v805 : Int) , f4_j4 m y761 v763 v764 v791 v792 v793 v794 v795 v805 = some sx803 → (seqQ (X4 n) p4_11 (blkQ (X4 n) 7 k4_2 29 (seqQ (X4 n) p4_10 (lpQ (X4 n) k4_2 25 p4_9 nx798 (blkQ (X4 n) 6 k4_0 25 (seqQ (X4 n) p4_8 (blkQ (X4 n) 3 k4_0 16 (seqQ (X4 n) p4_4 (lpQ (X4 n) k4_0 12 p4_3 nx729 (blkQ (X4 n) 2 k4_1 12 (blkQ (X4 n) 1 k4_1 11 (seqQ (X4 n) p4_2 (lpQ (X4 n) k4_1 7 p4_1 nx547 (blkQ (X4 n) 0 [2, 3, 7] 7 (seqQ (X4 n) p4_0 (fnQ (X4 n).E.T (resOf Proofs.Tryd.prog 4) (.tuple [e27 o.1, e29 o.2]))))))))))))))))) .normal ⟨q2 ((.ptr 1 0) :: (.ptr 2 0) :: q1 ((dP eS v2) :: (dI (a0.fClasses.length : Int)) :: (.ptr 6 0) :: (dI v542) :: q3 ((appD 30 (List.map eI y761.1)) :: q5 ((appD 21 (List.map eI v763.1)) :: q1 ((dI v764) :: (dI (if 1 > (if (v763.1.length : Int) > (y761.1.length : Int) then (v763.1.length : Int) else (y761.1.length : Int)) then 1 else (if (v763.1.length : Int) > (y761.1.length : Int) then (v763.1.length : Int) else (y761.1.length : Int)))) :: q2 ((dI v793) :: (.ptr 29 0) :: q19 ((dP e37 a0.fClasses) :: (dI (a0.fClasses.length : Int)) :: (dI v542) :: q5 ((dP e34 v554.fItems) :: (dI (v554.fItems.length : Int)) :: (dI v724) :: q40 (q8 ((dI (if 1 > (if (v763.1.length : Int) > (y761.1.length : Int) then (v763.1.length : Int) else (y761.1.length : Int)) then 1 else (if (v763.1.length : Int) > (y761.1.length : Int) then (v763.1.length : Int) else (y761.1.length : Int)))) :: (dI v793) :: q40 (q26 []))))))))))), [(b4_0 a0), b4_1, b4_2, (b4_3 v1), .dead, .dead, (.cells [(dI v794), (rowF .nil 31 (List.map e40 v795)), (.v (.sl .nonfull (List.map e42 ([(⟨(a0.fClasses.length : Int), 0⟩ : S42)]))))]), .dead, .dead, .dead, .dead, (b4_4 v554), .dead, .dead, .dead, .dead, (b4_5 v736), .dead, (b4_6 v737), .dead, .dead, (appO 1 (List.map eI v763.1)), (b4_6 v763), .dead, .dead, .dead, .dead, .dead, .dead, (.cells [(dI v791), (dI v764), (dI v805), (dI 0), (dI v792)]), (appO 1 (List.map eI y761.1)), (rowO 5 (List.map e40 v795))]⟩ := by
    intro v805  h
    unfold f4_j4 at h
    refine seqQ.n ?_
    refine Wp.sq ?_
    refine Wp.sq ?_
    refine Wp.rg ?_
    refine Ops.sg 2 2 ?_
    refine Ops.on 3 (fun h0 e0 => (len_a (T := T) (g := .nil) h0 47 3 21 eI v763.1 (by kernel_rfl))) ?_
    refine Ops.sg 1 4 ?_
    refine Ops.dn ?_
    refine seqQ.n ?_
    have J4j808 : ∀ (v807 : Int) , f4_j3 m y761 v763 v764 v791 v792 v793 v794 v795 v805 v807 = some sx803 → (seqQ (X4 n) p4_12 (blkQ (X4 n) 7 k4_2 29 (seqQ (X4 n) p4_10 (lpQ (X4 n) k4_2 25 p4_9 nx798 (blkQ (X4 n) 6 k4_0 25 (seqQ (X4 n) p4_8 (blkQ (X4 n) 3 k4_0 16 (seqQ (X4 n) p4_4 (lpQ (X4 n) k4_0 12 p4_3 nx729 (blkQ (X4 n) 2 k4_1 12 (blkQ (X4 n) 1 k4_1 11 (seqQ (X4 n) p4_2 (lpQ (X4 n) k4_1 7 p4_1 nx547 (blkQ (X4 n) 0 [2, 3, 7] 7 (seqQ (X4 n) p4_0 (fnQ (X4 n).E.T (resOf Proofs.Tryd.prog 4) (.tuple [e27 o.1, e29 o.2]))))))))))))))))) .normal ⟨q2 ((.ptr 1 0) :: (.ptr 2 0) :: q1 ((dP eS v2) :: (dI (a0.fClasses.length : Int)) :: (.ptr 6 0) :: (dI v542) :: q3 ((appD 32 (List.map eI y761.1)) :: q5 ((appD 21 (List.map eI v763.1)) :: q1 ((dI v764) :: (dI (if 1 > (if (v763.1.length : Int) > (y761.1.length : Int) then (v763.1.length : Int) else (y761.1.length : Int)) then 1 else (if (v763.1.length : Int) > (y761.1.length : Int) then (v763.1.length : Int) else (y761.1.length : Int)))) :: q2 ((dI v793) :: (.ptr 29 0) :: q19 ((dP e37 a0.fClasses) :: (dI (a0.fClasses.length : Int)) :: (dI v542) :: q5 ((dP e34 v554.fItems) :: (dI (v554.fItems.length : Int)) :: (dI v724) :: q40 (q8 ((dI (if 1 > (if (v763.1.length : Int) > (y761.1.length : Int) then (v763.1.length : Int) else (y761.1.length : Int)) then 1 else (if (v763.1.length : Int) > (y761.1.length : Int) then (v763.1.length : Int) else (y761.1.length : Int)))) :: (dI v793) :: q40 (q26 []))))))))))), [(b4_0 a0), b4_1, b4_2, (b4_3 v1), .dead, .dead, (.cells [(dI v794), (rowF .nil 33 (List.map e40 v795)), (.v (.sl .nonfull (List.map e42 ([(⟨(a0.fClasses.length : Int), 0⟩ : S42)]))))]), .dead, .dead, .dead, .dead, (b4_4 v554), .dead, .dead, .dead, .dead, (b4_5 v736), .dead, (b4_6 v737), .dead, .dead, (appO 1 (List.map eI v763.1)), (b4_6 v763), .dead, .dead, .dead, .dead, .dead, .dead, (b4_7 v791 v764 v805 v807 v792), .dead, .dead, (appO 1 (List.map eI y761.1)), (rowO 5 (List.map e40 v795))]⟩ := by
     intro v807  h
     unfold f4_j3 at h
     refine seqQ.n ?_
     refine Wp.sq ?_
     refine Wp.sq ?_
     refine Wp.rg ?_
     refine Ops.sg 4 4 ?_
     refine Ops.dn ?_
     refine seqQ.n ?_
     have J4j811 : ∀ (v809 : Int) (v810 : Int) , f4_j2 m v791 v792 v793 v795 v805 v807 v809 v810 = some sx803 → (seqQ (X4 n) p4_13 (blkQ (X4 n) 7 k4_2 29 (seqQ (X4 n) p4_10 (lpQ (X4 n) k4_2 25 p4_9 nx798 (blkQ (X4 n) 6 k4_0 25 (seqQ (X4 n) p4_8 (blkQ (X4 n) 3 k4_0 16 (seqQ (X4 n) p4_4 (lpQ (X4 n) k4_0 12 p4_3 nx729 (blkQ (X4 n) 2 k4_1 12 (blkQ (X4 n) 1 k4_1 11 (seqQ (X4 n) p4_2 (lpQ (X4 n) k4_1 7 p4_1 nx547 (blkQ (X4 n) 0 [2, 3, 7] 7 (seqQ (X4 n) p4_0 (fnQ (X4 n).E.T (resOf Proofs.Tryd.prog 4) (.tuple [e27 o.1, e29 o.2]))))))))))))))))) .normal ⟨q2 ((.ptr 1 0) :: (.ptr 2 0) :: q1 ((dP eS v2) :: (dI (a0.fClasses.length : Int)) :: (.ptr 6 0) :: (dI v542) :: q3 ((appD 34 (List.map eI y761.1)) :: q5 ((appD 21 (List.map eI v763.1)) :: q1 ((dI v764) :: (dI (if 1 > (if (v763.1.length : Int) > (y761.1.length : Int) then (v763.1.length : Int) else (y761.1.length : Int)) then 1 else (if (v763.1.length : Int) > (y761.1.length : Int) then (v763.1.length : Int) else (y761.1.length : Int)))) :: q3 ((.ptr 29 0) :: q19 ((dP e37 a0.fClasses) :: (dI (a0.fClasses.length : Int)) :: (dI v542) :: q5 ((dP e34 v554.fItems) :: (dI (v554.fItems.length : Int)) :: (dI v724) :: q40 (q8 ((dI (if 1 > (if (v763.1.length : Int) > (y761.1.length : Int) then (v763.1.length : Int) else (y761.1.length : Int)) then 1 else (if (v763.1.length : Int) > (y761.1.length : Int) then (v763.1.length : Int) else (y761.1.length : Int)))) :: (dI v793) :: q40 (q26 []))))))))))), [(b4_0 a0), b4_1, b4_2, (b4_3 v1), .dead, .dead, (.cells [(dI v809), (rowF .nil 35 (List.map e40 v795)), (.v (.sl .nonfull (List.map e42 ([(⟨(a0.fClasses.length : Int), 0⟩ : S42)]))))]), .dead, .dead, .dead, .dead, (b4_4 v554), .dead, .dead, .dead, .dead, (b4_5 v736), .dead, (b4_6 v737), .dead, .dead, (appO 1 (List.map eI v763.1)), (b4_6 v763), .dead, .dead, .dead, .dead, .dead, .dead, (b4_7 v791 v810 v805 v807 v792), .dead, .dead, .dead, .dead, (appO 1 (List.map eI y761.1)), (rowO 5 (List.map e40 v795))]⟩ := by
      intro v809 v810  h
      unfold f4_j2 at h
      refine seqQ.n ?_
      refine Wp.sq ?_
      refine Wp.rg ?_
      refine Ops.sg 4 4 ?_
      obtain ⟨v812, ev812, h⟩ := bnd_some h
      refine Ops.on 5 (fun h0 e0 => (row_app (T := T) (g := .nil) h0 25 41 35 ti41 .nonfull e40 v795 ([(⟨v791, v810, v805, v807, v792⟩ : S40)]) v812 ev812 (by kernel_rfl) (by kernel_rfl) (by kernel_rfl) (by kernel_rfl) (fun _ => rfl) (hq_of e0 (by kernel_rfl)))) ?_
      refine Ops.sg 1 6 ?_
      refine Ops.on 7 (fun h0 e0 => (st_l (i := ti25) (h := h0) (r := 6) (off := 1) (cs := [(dI v809), (rowF .nil 35 (List.map e40 v795)), (.v (.sl .nonfull (List.map e42 ([(⟨(a0.fClasses.length : Int), 0⟩ : S42)]))))]) (cs' := [(dI v809), (rowF .nil 36 (List.map e40 v812)), (.v (.sl .nonfull (List.map e42 ([(⟨(a0.fClasses.length : Int), 0⟩ : S42)]))))]) (x := (rowF .nil 36 (List.map e40 v812))) (hq_of (g := [(b4_0 a0), b4_1, b4_2, (b4_3 v1), .dead, .dead, (.cells [(dI v809), (rowF .nil 35 (List.map e40 v795)), (.v (.sl .nonfull (List.map e42 ([(⟨(a0.fClasses.length : Int), 0⟩ : S42)]))))]), .dead, .dead, .dead, .dead, (b4_4 v554), .dead, .dead, .dead, .dead, (b4_5 v736), .dead, (b4_6 v737), .dead, .dead, (appO 1 (List.map eI v763.1)), (b4_6 v763), .dead, .dead, .dead, .dead, .dead, .dead, (b4_7 v791 v810 v805 v807 v792), .dead, .dead, .dead, .dead, (appO 1 (List.map eI y761.1)), .dead, (rowO 5 (List.map e40 v812))]) (e0.trans (by kernel_rfl)) rfl) (by kernel_rfl) (rowF_one _ _ _) (by rfl))) ?_
      refine Ops.dn ?_
      refine seqQ.n ?_
      refine Wp.rg ?_
      refine Ops.sg 4 4 ?_
      refine Ops.dn ?_
      refine blkQ.n ⟨q2 ((.ptr 1 0) :: (.ptr 2 0) :: q1 ((dP eS v2) :: (dI (a0.fClasses.length : Int)) :: (.ptr 6 0) :: (dI v542) :: q3 ((appD 29 (List.map eI y761.1)) :: q5 ((appD 21 (List.map eI v763.1)) :: q1 ((dI v764) :: (dI (if 1 > (if (v763.1.length : Int) > (y761.1.length : Int) then (v763.1.length : Int) else (y761.1.length : Int)) then 1 else (if (v763.1.length : Int) > (y761.1.length : Int) then (v763.1.length : Int) else (y761.1.length : Int)))) :: (dI v810) :: (dI 0) :: q21 ((dP e37 a0.fClasses) :: (dI (a0.fClasses.length : Int)) :: (dI v542) :: q5 ((dP e34 v554.fItems) :: (dI (v554.fItems.length : Int)) :: (dI v724) :: q40 (q8 ((dI (if 1 > (if (v763.1.length : Int) > (y761.1.length : Int) then (v763.1.length : Int) else (y761.1.length : Int)) then 1 else (if (v763.1.length : Int) > (y761.1.length : Int) then (v763.1.length : Int) else (y761.1.length : Int)))) :: (dI v793) :: q40 (q26 [])))))))))), [(b4_0 a0), b4_1, b4_2, (b4_3 v1), .dead, .dead, (.cells [(dI v809), (rowF .nil 30 (List.map e40 v812)), (.v (.sl .nonfull (List.map e42 ([(⟨(a0.fClasses.length : Int), 0⟩ : S42)]))))]), .dead, .dead, .dead, .dead, (b4_4 v554), .dead, .dead, .dead, .dead, (b4_5 v736), .dead, (b4_6 v737), .dead, .dead, (appO 1 (List.map eI v763.1)), (b4_6 v763), .dead, .dead, .dead, .dead, .dead, .dead, (appO 1 (List.map eI y761.1)), (rowO 5 (List.map e40 v812))]⟩ (by generalize y761.1 = z0; generalize v763.1 = z1; generalize v812 = z2; cases z0 <;> cases z1 <;> cases z2 <;> (as_aux_lemma => kernel_rfl)) ?_
      refine seqQ.n ?_
      refine Wp.rg ?_
      refine Ops.sg 2 2 ?_
      refine Ops.dn ?_
      refine lpQ.n ⟨q2 ((.ptr 1 0) :: (.ptr 2 0) :: q1 ((dP eS v2) :: (dI (a0.fClasses.length : Int)) :: (.ptr 6 0) :: (dI v542) :: q3 ((appD 25 (List.map eI y761.1)) :: q5 ((appD 21 (List.map eI v763.1)) :: q1 ((dI v764) :: (dI (if 1 > (if (v763.1.length : Int) > (y761.1.length : Int) then (v763.1.length : Int) else (y761.1.length : Int)) then 1 else (if (v763.1.length : Int) > (y761.1.length : Int) then (v763.1.length : Int) else (y761.1.length : Int)))) :: (dI v810) :: (dI 0) :: q21 ((dP e37 a0.fClasses) :: (dI (a0.fClasses.length : Int)) :: (dI v542) :: q5 ((dP e34 v554.fItems) :: (dI (v554.fItems.length : Int)) :: (dI v724) :: q40 (q8 ((dI (if 1 > (if (v763.1.length : Int) > (y761.1.length : Int) then (v763.1.length : Int) else (y761.1.length : Int)) then 1 else (if (v763.1.length : Int) > (y761.1.length : Int) then (v763.1.length : Int) else (y761.1.length : Int)))) :: (dI (w64 (v793 + 1))) :: q40 (q26 [])))))))))), [(b4_0 a0), b4_1, b4_2, (b4_3 v1), .dead, .dead, (.cells [(dI v809), (rowF .nil 26 (List.map e40 v812)), (.v (.sl .nonfull (List.map e42 ([(⟨(a0.fClasses.length : Int), 0⟩ : S42)]))))]), .dead, .dead, .dead, .dead, (b4_4 v554), .dead, .dead, .dead, .dead, (b4_5 v736), .dead, (b4_6 v737), .dead, .dead, (appO 1 (List.map eI v763.1)), (b4_6 v763), .dead, .dead, (appO 1 (List.map eI y761.1)), (rowO 5 (List.map e40 v812))]⟩ (by generalize y761.1 = z0; generalize v763.1 = z1; generalize v812 = z2; cases z0 <;> cases z1 <;> cases z2 <;> (as_aux_lemma => kernel_rfl)) ?_
      cases h
      exact ihx799 v810 0 (w64 (v793 + 1)) v809 v812  _ hsx804 _ (by omega) hrx800 hxx801
     refine Wp.cnd h [2, 3, 5, 6, 7, 8, 12, 18, 20, 21, 25, 45, 46, 47, 53, 54, 55, 104, 105] 34 (by kernel_rfl) (fun h => ?_) (fun h => ?_)
     ·refine Wp.sq ?_
      refine Wp.rg ?_
      refine Ops.sg 4 4 ?_
      refine Ops.dn ?_
      refine seqQ.n ?_
      refine Wp.rg ?_
      refine Ops.sg 5 5 ?_
      refine Ops.dn ?_
      refine sqQ.n ⟨q2 ((.ptr 1 0) :: (.ptr 2 0) :: q1 ((dP eS v2) :: (dI (a0.fClasses.length : Int)) :: (.ptr 6 0) :: (dI v542) :: q3 ((appD 34 (List.map eI y761.1)) :: q5 ((appD 21 (List.map eI v763.1)) :: q1 ((dI v764) :: (dI (if 1 > (if (v763.1.length : Int) > (y761.1.length : Int) then (v763.1.length : Int) else (y761.1.length : Int)) then 1 else (if (v763.1.length : Int) > (y761.1.length : Int) then (v763.1.length : Int) else (y761.1.length : Int)))) :: q3 ((.ptr 29 0) :: q19 ((dP e37 a0.fClasses) :: (dI (a0.fClasses.length : Int)) :: (dI v542) :: q5 ((dP e34 v554.fItems) :: (dI (v554.fItems.length : Int)) :: (dI v724) :: q40 (q8 ((dI (if 1 > (if (v763.1.length : Int) > (y761.1.length : Int) then (v763.1.length : Int) else (y761.1.length : Int)) then 1 else (if (v763.1.length : Int) > (y761.1.length : Int) then (v763.1.length : Int) else (y761.1.length : Int)))) :: (dI v793) :: q40 (q26 []))))))))))), [(b4_0 a0), b4_1, b4_2, (b4_3 v1), .dead, .dead, (.cells [(dI (w64 (v794 + 1))), (rowF .nil 35 (List.map e40 v795)), (.v (.sl .nonfull (List.map e42 ([(⟨(a0.fClasses.length : Int), 0⟩ : S42)]))))]), .dead, .dead, .dead, .dead, (b4_4 v554), .dead, .dead, .dead, .dead, (b4_5 v736), .dead, (b4_6 v737), .dead, .dead, (appO 1 (List.map eI v763.1)), (b4_6 v763), .dead, .dead, .dead, .dead, .dead, .dead, (b4_7 v791 v794 v805 v807 v792), .dead, .dead, .dead, .dead, (appO 1 (List.map eI y761.1)), (rowO 5 (List.map e40 v795))]⟩ (by generalize y761.1 = z0; generalize v763.1 = z1; generalize v795 = z2; cases z0 <;> cases z1 <;> cases z2 <;> (as_aux_lemma => kernel_rfl)) ?_
      exact J4j811 (w64 (v794 + 1)) v794  h
     ·refine Wp.sk ?_
      refine sqQ.n ⟨q2 ((.ptr 1 0) :: (.ptr 2 0) :: q1 ((dP eS v2) :: (dI (a0.fClasses.length : Int)) :: (.ptr 6 0) :: (dI v542) :: q3 ((appD 34 (List.map eI y761.1)) :: q5 ((appD 21 (List.map eI v763.1)) :: q1 ((dI v764) :: (dI (if 1 > (if (v763.1.length : Int) > (y761.1.length : Int) then (v763.1.length : Int) else (y761.1.length : Int)) then 1 else (if (v763.1.length : Int) > (y761.1.length : Int) then (v763.1.length : Int) else (y761.1.length : Int)))) :: q3 ((.ptr 29 0) :: q19 ((dP e37 a0.fClasses) :: (dI (a0.fClasses.length : Int)) :: (dI v542) :: q5 ((dP e34 v554.fItems) :: (dI (v554.fItems.length : Int)) :: (dI v724) :: q40 (q8 ((dI (if 1 > (if (v763.1.length : Int) > (y761.1.length : Int) then (v763.1.length : Int) else (y761.1.length : Int)) then 1 else (if (v763.1.length : Int) > (y761.1.length : Int) then (v763.1.length : Int) else (y761.1.length : Int)))) :: (dI v793) :: q40 (q26 []))))))))))), [(b4_0 a0), b4_1, b4_2, (b4_3 v1), .dead, .dead, (.cells [(dI v794), (rowF .nil 35 (List.map e40 v795)), (.v (.sl .nonfull (List.map e42 ([(⟨(a0.fClasses.length : Int), 0⟩ : S42)]))))]), .dead, .dead, .dead, .dead, (b4_4 v554), .dead, .dead, .dead, .dead, (b4_5 v736), .dead, (b4_6 v737), .dead, .dead, (appO 1 (List.map eI v763.1)), (b4_6 v763), .dead, .dead, .dead, .dead, .dead, .dead, (b4_7 v791 v764 v805 v807 v792), .dead, .dead, .dead, .dead, (appO 1 (List.map eI y761.1)), (rowO 5 (List.map e40 v795))]⟩ (by generalize y761.1 = z0; generalize v763.1 = z1; generalize v795 = z2; cases z0 <;> cases z1 <;> cases z2 <;> (as_aux_lemma => kernel_rfl)) ?_
      exact J4j811 v794 v764  h
    refine Wp.cnd h k4_3 32 (by kernel_rfl) (fun h => ?_) (fun h => ?_)
    ·refine Wp.rg ?_
     refine Ops.sg 2 2 ?_
     obtain ⟨v813, ev813, h⟩ := bnd_some h
     refine Ops.on 3 (fun h0 e0 => (ix_a (T := T) (g := .nil) h0 47 3 1 21 eI v763.1 v793 v813 ev813 (by kernel_rfl) (by kernel_rfl) (fun _ => rfl))) ?_
     refine Ops.sg 3 6 ?_
     refine Ops.dn ?_
     refine sqQ.n ⟨q2 ((.ptr 1 0) :: (.ptr 2 0) :: q1 ((dP eS v2) :: (dI (a0.fClasses.length : Int)) :: (.ptr 6 0) :: (dI v542) :: q3 ((appD 32 (List.map eI y761.1)) :: q5 ((appD 21 (List.map eI v763.1)) :: q1 ((dI v764) :: (dI (if 1 > (if (v763.1.length : Int) > (y761.1.length : Int) then (v763.1.length : Int) else (y761.1.length : Int)) then 1 else (if (v763.1.length : Int) > (y761.1.length : Int) then (v763.1.length : Int) else (y761.1.length : Int)))) :: q2 ((dI v793) :: (.ptr 29 0) :: q19 ((dP e37 a0.fClasses) :: (dI (a0.fClasses.length : Int)) :: (dI v542) :: q5 ((dP e34 v554.fItems) :: (dI (v554.fItems.length : Int)) :: (dI v724) :: q40 (q8 ((dI (if 1 > (if (v763.1.length : Int) > (y761.1.length : Int) then (v763.1.length : Int) else (y761.1.length : Int)) then 1 else (if (v763.1.length : Int) > (y761.1.length : Int) then (v763.1.length : Int) else (y761.1.length : Int)))) :: (dI v793) :: q40 (q26 []))))))))))), [(b4_0 a0), b4_1, b4_2, (b4_3 v1), .dead, .dead, (.cells [(dI v794), (rowF .nil 33 (List.map e40 v795)), (.v (.sl .nonfull (List.map e42 ([(⟨(a0.fClasses.length : Int), 0⟩ : S42)]))))]), .dead, .dead, .dead, .dead, (b4_4 v554), .dead, .dead, .dead, .dead, (b4_5 v736), .dead, (b4_6 v737), .dead, .dead, (appO 1 (List.map eI v763.1)), (b4_6 v763), .dead, .dead, .dead, .dead, .dead, .dead, (b4_7 v791 v764 v805 v813 v792), .dead, .dead, (appO 1 (List.map eI y761.1)), (rowO 5 (List.map e40 v795))]⟩ (by generalize y761.1 = z0; generalize v763.1 = z1; generalize v795 = z2; cases z0 <;> cases z1 <;> cases z2 <;> (as_aux_lemma => kernel_rfl)) ?_
     exact J4j808 v813  h
    ·refine Wp.sk ?_
     refine sqQ.n ⟨q2 ((.ptr 1 0) :: (.ptr 2 0) :: q1 ((dP eS v2) :: (dI (a0.fClasses.length : Int)) :: (.ptr 6 0) :: (dI v542) :: q3 ((appD 32 (List.map eI y761.1)) :: q5 ((appD 21 (List.map eI v763.1)) :: q1 ((dI v764) :: (dI (if 1 > (if (v763.1.length : Int) > (y761.1.length : Int) then (v763.1.length : Int) else (y761.1.length : Int)) then 1 else (if (v763.1.length : Int) > (y761.1.length : Int) then (v763.1.length : Int) else (y761.1.length : Int)))) :: q2 ((dI v793) :: (.ptr 29 0) :: q19 ((dP e37 a0.fClasses) :: (dI (a0.fClasses.length : Int)) :: (dI v542) :: q5 ((dP e34 v554.fItems) :: (dI (v554.fItems.length : Int)) :: (dI v724) :: q40 (q8 ((dI (if 1 > (if (v763.1.length : Int) > (y761.1.length : Int) then (v763.1.length : Int) else (y761.1.length : Int)) then 1 else (if (v763.1.length : Int) > (y761.1.length : Int) then (v763.1.length : Int) else (y761.1.length : Int)))) :: (dI v793) :: q40 (q26 []))))))))))), [(b4_0 a0), b4_1, b4_2, (b4_3 v1), .dead, .dead, (.cells [(dI v794), (rowF .nil 33 (List.map e40 v795)), (.v (.sl .nonfull (List.map e42 ([(⟨(a0.fClasses.length : Int), 0⟩ : S42)]))))]), .dead, .dead, .dead, .dead, (b4_4 v554), .dead, .dead, .dead, .dead, (b4_5 v736), .dead, (b4_6 v737), .dead, .dead, (appO 1 (List.map eI v763.1)), (b4_6 v763), .dead, .dead, .dead, .dead, .dead, .dead, (.cells [(dI v791), (dI v764), (dI v805), (dI 0), (dI v792)]), .dead, .dead, (appO 1 (List.map eI y761.1)), (rowO 5 (List.map e40 v795))]⟩ (by generalize y761.1 = z0; generalize v763.1 = z1; generalize v795 = z2; cases z0 <;> cases z1 <;> cases z2 <;> (as_aux_lemma => kernel_rfl)) ?_
     exact J4j808 0  h
   refine Wp.cnd h k4_3 30 (by kernel_rfl) (fun h => ?_) (fun h => ?_)
   ·refine Wp.rg ?_
    refine Ops.sg 2 2 ?_
    obtain ⟨v814, ev814, h⟩ := bnd_some h
    refine Ops.on 3 (fun h0 e0 => (ix_a (T := T) (g := .nil) h0 47 3 1 27 eI y761.1 v793 v814 ev814 (by kernel_rfl) (by kernel_rfl) (fun _ => rfl))) ?_
    refine Ops.sg 3 6 ?_
    refine Ops.dn ?_
    refine sqQ.n ⟨q2 ((.ptr 1 0) :: (.ptr 2 0) :: q1 ((dP eS v2) :: (dI (a0.fClasses.length : Int)) :: (.ptr 6 0) :: (dI v542) :: q3 ((appD 30 (List.map eI y761.1)) :: q5 ((appD 21 (List.map eI v763.1)) :: q1 ((dI v764) :: (dI (if 1 > (if (v763.1.length : Int) > (y761.1.length : Int) then (v763.1.length : Int) else (y761.1.length : Int)) then 1 else (if (v763.1.length : Int) > (y761.1.length : Int) then (v763.1.length : Int) else (y761.1.length : Int)))) :: q2 ((dI v793) :: (.ptr 29 0) :: q19 ((dP e37 a0.fClasses) :: (dI (a0.fClasses.length : Int)) :: (dI v542) :: q5 ((dP e34 v554.fItems) :: (dI (v554.fItems.length : Int)) :: (dI v724) :: q40 (q8 ((dI (if 1 > (if (v763.1.length : Int) > (y761.1.length : Int) then (v763.1.length : Int) else (y761.1.length : Int)) then 1 else (if (v763.1.length : Int) > (y761.1.length : Int) then (v763.1.length : Int) else (y761.1.length : Int)))) :: (dI v793) :: q40 (q26 []))))))))))), [(b4_0 a0), b4_1, b4_2, (b4_3 v1), .dead, .dead, (.cells [(dI v794), (rowF .nil 31 (List.map e40 v795)), (.v (.sl .nonfull (List.map e42 ([(⟨(a0.fClasses.length : Int), 0⟩ : S42)]))))]), .dead, .dead, .dead, .dead, (b4_4 v554), .dead, .dead, .dead, .dead, (b4_5 v736), .dead, (b4_6 v737), .dead, .dead, (appO 1 (List.map eI v763.1)), (b4_6 v763), .dead, .dead, .dead, .dead, .dead, .dead, (.cells [(dI v791), (dI v764), (dI v814), (dI 0), (dI v792)]), (appO 1 (List.map eI y761.1)), (rowO 5 (List.map e40 v795))]⟩ (by generalize y761.1 = z0; generalize v763.1 = z1; generalize v795 = z2; cases z0 <;> cases z1 <;> cases z2 <;> (as_aux_lemma => kernel_rfl)) ?_
    exact J4j806 v814  h
   ·refine Wp.sk ?_
    refine sqQ.n ⟨q2 ((.ptr 1 0) :: (.ptr 2 0) :: q1 ((dP eS v2) :: (dI (a0.fClasses.length : Int)) :: (.ptr 6 0) :: (dI v542) :: q3 ((appD 30 (List.map eI y761.1)) :: q5 ((appD 21 (List.map eI v763.1)) :: q1 ((dI v764) :: (dI (if 1 > (if (v763.1.length : Int) > (y761.1.length : Int) then (v763.1.length : Int) else (y761.1.length : Int)) then 1 else (if (v763.1.length : Int) > (y761.1.length : Int) then (v763.1.length : Int) else (y761.1.length : Int)))) :: q2 ((dI v793) :: (.ptr 29 0) :: q19 ((dP e37 a0.fClasses) :: (dI (a0.fClasses.length : Int)) :: (dI v542) :: q5 ((dP e34 v554.fItems) :: (dI (v554.fItems.length : Int)) :: (dI v724) :: q40 (q8 ((dI (if 1 > (if (v763.1.length : Int) > (y761.1.length : Int) then (v763.1.length : Int) else (y761.1.length : Int)) then 1 else (if (v763.1.length : Int) > (y761.1.length : Int) then (v763.1.length : Int) else (y761.1.length : Int)))) :: (dI v793) :: q40 (q26 []))))))))))), [(b4_0 a0), b4_1, b4_2, (b4_3 v1), .dead, .dead, (.cells [(dI v794), (rowF .nil 31 (List.map e40 v795)), (.v (.sl .nonfull (List.map e42 ([(⟨(a0.fClasses.length : Int), 0⟩ : S42)]))))]), .dead, .dead, .dead, .dead, (b4_4 v554), .dead, .dead, .dead, .dead, (b4_5 v736), .dead, (b4_6 v737), .dead, .dead, (appO 1 (List.map eI v763.1)), (b4_6 v763), .dead, .dead, .dead, .dead, .dead, .dead, (.cells [(dI v791), (dI v764), (dI 0), (dI 0), (dI v792)]), (appO 1 (List.map eI y761.1)), (rowO 5 (List.map e40 v795))]⟩ (by generalize y761.1 = z0; generalize v763.1 = z1; generalize v795 = z2; cases z0 <;> cases z1 <;> cases z2 <;> (as_aux_lemma => kernel_rfl)) ?_
    exact J4j806 0  h
  ·refine Wp.exit (id := 6) (by kernel_rfl) ?_
   refine sqQ.x ?_
   refine seqQ.x ?_
   cases h
   refine lpQ.x ?_
   refine blkQ.x ⟨q2 ((.ptr 1 0) :: (.ptr 2 0) :: q1 ((dP eS v2) :: (dI (a0.fClasses.length : Int)) :: (.ptr 6 0) :: (dI v542) :: q36 ((dP e37 a0.fClasses) :: (dI (a0.fClasses.length : Int)) :: (dI v542) :: q5 ((dP e34 v554.fItems) :: (dI (v554.fItems.length : Int)) :: (dI v724) :: q40 (q40 (q36 [])))))), [(b4_0 a0), b4_1, b4_2, (b4_3 v1), .dead, .dead, (.cells [(dI v794), (rowF .nil 26 (List.map e40 v795)), (.v (.sl .nonfull (List.map e42 ([(⟨(a0.fClasses.length : Int), 0⟩ : S42)]))))]), .dead, .dead, .dead, .dead, (b4_4 v554), .dead, .dead, .dead, .dead, (b4_5 v736), .dead, (b4_6 v737), .dead, .dead, (appO 1 (List.map eI v763.1)), (b4_6 v763), .dead, .dead, (appO 1 (List.map eI y761.1)), (rowO 5 (List.map e40 v795))]⟩ (by generalize y761.1 = z0; generalize v763.1 = z1; generalize v795 = z2; cases z0 <;> cases z1 <;> cases z2 <;> (as_aux_lemma => kernel_rfl)) ?_
   exact hxx801 (v791, v792, v793, v794, v795)  hsx804
theorem f4_hLx760 (m : Nat) (a0 : S23) (o : (S27 × S29)) (n : Nat) (hn : m + 6 ≤ n + 1) (v2 : (List ByteArray)) (v736 : S34) (nx729 : Nat) (nx547 : Nat) (v542 : Int) (v554 : S37) (v724 : Int) (v1 : S29) (v725 : Int) (v726 : (List S40)) (v737 : ((List Int) × S29)) : ∀ (kx749 : Nat) (v746 : (List Int)) (v747 : Int)  (ox748 : (S27 × S29) ⊕ ((List Int) × Int)), iter (fun (y : (List Int) × Int) => f4_B1 m v2 v736 y.1 y.2) kx749 (v746, v747) = some ox748 → ∀ nx750, kx749 ≤ nx750 → (∀ r, ox748 = .inl r → ∀ σ, RetOk (X4 n) (resOf Proofs.Tryd.prog 4) (.tuple [e27 r.1, e29 r.2]) σ → (seqQ (X4 n) p4_5 (blkQ (X4 n) 3 k4_0 16 (seqQ (X4 n) p4_4 (lpQ (X4 n) k4_0 12 p4_3 nx729 (blkQ (X4 n) 2 k4_1 12 (blkQ (X4 n) 1 k4_1 11 (seqQ (X4 n) p4_2 (lpQ (X4 n) k4_1 7 p4_1 nx547 (blkQ (X4 n) 0 [2, 3, 7] 7 (seqQ (X4 n) p4_0 (fnQ (X4 n).E.T (resOf Proofs.Tryd.prog 4) (.tuple [e27 o.1, e29 o.2])))))))))))) .ret σ) → (∀ (y : (List Int) × Int) , ox748 = .inr y → (seqQ (X4 n) p4_5 (blkQ (X4 n) 3 k4_0 16 (seqQ (X4 n) p4_4 (lpQ (X4 n) k4_0 12 p4_3 nx729 (blkQ (X4 n) 2 k4_1 12 (blkQ (X4 n) 1 k4_1 11 (seqQ (X4 n) p4_2 (lpQ (X4 n) k4_1 7 p4_1 nx547 (blkQ (X4 n) 0 [2, 3, 7] 7 (seqQ (X4 n) p4_0 (fnQ (X4 n).E.T (resOf Proofs.Tryd.prog 4) (.tuple [e27 o.1, e29 o.2])))))))))))) .normal ⟨q2 ((.ptr 1 0) :: (.ptr 2 0) :: q1 ((dP eS v2) :: (dI (a0.fClasses.length : Int)) :: (.ptr 6 0) :: (dI v542) :: q2 ((.ptr 16 0) :: (appD 19 (List.map eI y.1)) :: q32 ((dP e37 a0.fClasses) :: (dI (a0.fClasses.length : Int)) :: (dI v542) :: q5 ((dP e34 v554.fItems) :: (dI (v554.fItems.length : Int)) :: (dI v724) :: q40 (q40 (q36 []))))))), [(b4_0 a0), b4_1, b4_2, (b4_3 v1), .dead, .dead, (.cells [(dI v725), (rowF .nil 20 (List.map e40 v726)), (.v (.sl .nonfull (List.map e42 ([(⟨(a0.fClasses.length : Int), 0⟩ : S42)]))))]), .dead, .dead, .dead, .dead, (b4_4 v554), .dead, .dead, .dead, .dead, (b4_5 v736), .dead, (b4_6 v737), (appO 1 (List.map eI y.1)), (rowO 5 (List.map e40 v726))]⟩) → Lp (X4 n) k4_4 19 p4_6 nx750 ⟨q2 ((.ptr 1 0) :: (.ptr 2 0) :: q1 ((dP eS v2) :: (dI (a0.fClasses.length : Int)) :: (.ptr 6 0) :: (dI v542) :: q2 ((.ptr 16 0) :: (appD 19 (List.map eI v746)) :: q32 ((dP e37 a0.fClasses) :: (dI (a0.fClasses.length : Int)) :: (dI v542) :: q5 ((dP e34 v554.fItems) :: (dI (v554.fItems.length : Int)) :: (dI v724) :: q10 ((dP eS v736.fTags) :: (dI (v736.fTags.length : Int)) :: (dI v747) :: q40 (q40 (q23 [])))))))), [(b4_0 a0), b4_1, b4_2, (b4_3 v1), .dead, .dead, (.cells [(dI v725), (rowF .nil 20 (List.map e40 v726)), (.v (.sl .nonfull (List.map e42 ([(⟨(a0.fClasses.length : Int), 0⟩ : S42)]))))]), .dead, .dead, .dead, .dead, (b4_4 v554), .dead, .dead, .dead, .dead, (b4_5 v736), .dead, (b4_6 v737), (appO 1 (List.map eI v746)), (rowO 5 (List.map e40 v726))]⟩ (blkQ (X4 n) 4 [2, 3, 5, 6, 7, 8, 11, 12, 45, 46, 47, 53, 54, 55] 19 (seqQ (X4 n) p4_5 (blkQ (X4 n) 3 k4_0 16 (seqQ (X4 n) p4_4 (lpQ (X4 n) k4_0 12 p4_3 nx729 (blkQ (X4 n) 2 k4_1 12 (blkQ (X4 n) 1 k4_1 11 (seqQ (X4 n) p4_2 (lpQ (X4 n) k4_1 7 p4_1 nx547 (blkQ (X4 n) 0 [2, 3, 7] 7 (seqQ (X4 n) p4_0 (fnQ (X4 n).E.T (resOf Proofs.Tryd.prog 4) (.tuple [e27 o.1, e29 o.2]))))))))))))) := by
 intro kx749
 induction kx749 with
 | zero => intro v746 v747  ox748 h; exact (iter_zero h).elim
 | succ kx749 ihx751 =>
  intro v746 v747  ox748 h nx750 hnx754 hrx752 hxx753
  obtain ⟨nx750, rfl⟩ : ∃ q, nx750 = q + 1 := ⟨nx750 - 1, by omega⟩
  obtain ⟨sx755, h, hsx756⟩ := iter_some h
  have h : f4_B1 m v2 v736 v746 v747 = some sx755 := h
  unfold f4_B1 at h
  refine Lp.succ ?_
  refine Wp.sq ?_
  refine Wp.rg ?_
  refine Ops.sg 1 1 ?_
  refine Ops.dn ?_
  refine seqQ.n ?_
  refine Wp.sq ?_
  refine Wp.cnd h k4_4 21 (by kernel_rfl) (fun h => ?_) (fun h => ?_)
  ·refine Wp.sk ?_
   refine sqQ.n ⟨q2 ((.ptr 1 0) :: (.ptr 2 0) :: q1 ((dP eS v2) :: (dI (a0.fClasses.length : Int)) :: (.ptr 6 0) :: (dI v542) :: q2 ((.ptr 16 0) :: (appD 21 (List.map eI v746)) :: q32 ((dP e37 a0.fClasses) :: (dI (a0.fClasses.length : Int)) :: (dI v542) :: q5 ((dP e34 v554.fItems) :: (dI (v554.fItems.length : Int)) :: (dI v724) :: q10 ((dP eS v736.fTags) :: (dI (v736.fTags.length : Int)) :: (dI v747) :: q40 (q40 (q23 [])))))))), [(b4_0 a0), b4_1, b4_2, (b4_3 v1), .dead, .dead, (.cells [(dI v725), (rowF .nil 22 (List.map e40 v726)), (.v (.sl .nonfull (List.map e42 ([(⟨(a0.fClasses.length : Int), 0⟩ : S42)]))))]), .dead, .dead, .dead, .dead, (b4_4 v554), .dead, .dead, .dead, .dead, (b4_5 v736), .dead, (b4_6 v737), .dead, .dead, (appO 1 (List.map eI v746)), (rowO 5 (List.map e40 v726))]⟩ (by generalize v746 = z0; generalize v726 = z1; cases z0 <;> cases z1 <;> (as_aux_lemma => kernel_rfl)) ?_
   refine seqQ.n ?_
   refine Wp.sq ?_
   refine Wp.block' 5 k4_4 23 (by kernel_rfl) ?_
   refine Wp.sq ?_
   refine Wp.rg ?_
   obtain ⟨v757, ev757, h⟩ := bnd_some h
   refine Ops.on 1 (fun h0 e0 => (ix_r (T := T) h0 33 9 1 .plain eS v736.fTags v747 v757 ev757 (by kernel_rfl) (by kernel_rfl) (fun _ => rfl))) ?_
   refine Ops.sg 2 3 ?_
   refine Ops.dn ?_
   refine seqQ.n ?_
   refine Wp.sq ?_
   refine Wp.rg ?_
   refine Ops.sg 2 2 ?_
   obtain ⟨v758, ev758, h⟩ := bnd_some h
   refine Ops.on 3 (fun h0 e0 => (call_ok (E' := EG) (h := h0) (by kernel_rfl) (Args.v (vP eS v2) ((eL eS) v2) (by kernel_rfl) (Args.v (.str v757) (eS v757) (by kernel_rfl) Args.nil)) (ok10 m v2 v757 v758 ev758 n (by omega)))) ?_
   refine Ops.sg 5 8 ?_
   refine Ops.dn ?_
   refine seqQ.n ?_
   refine Wp.rg ?_
   refine Ops.sg 4 4 ?_
   obtain ⟨v759, ev759, h⟩ := bnd_some h
   refine Ops.on 5 (fun h0 e0 => (app_r (T := T) (g := .nil) h0 47 3 21 1 ti3 .nonfull eI v746 ([w64 (983040 + v758.1)]) v759 ev759 (by kernel_rfl) (by kernel_rfl) (by kernel_rfl) (by kernel_rfl) (fun _ => rfl) (hq_of e0 (by kernel_rfl)))) ?_
   refine Ops.sg 1 6 ?_
   refine Ops.dn ?_
   refine blkQ.n ⟨q2 ((.ptr 1 0) :: (.ptr 2 0) :: q1 ((dP eS v2) :: (dI (a0.fClasses.length : Int)) :: (.ptr 6 0) :: (dI v542) :: q2 ((.ptr 16 0) :: (appD 23 (List.map eI v759)) :: q32 ((dP e37 a0.fClasses) :: (dI (a0.fClasses.length : Int)) :: (dI v542) :: q5 ((dP e34 v554.fItems) :: (dI (v554.fItems.length : Int)) :: (dI v724) :: q10 ((dP eS v736.fTags) :: (dI (v736.fTags.length : Int)) :: (dI v747) :: q40 (q40 (q23 [])))))))), [(b4_0 a0), b4_1, b4_2, (b4_3 v1), .dead, .dead, (.cells [(dI v725), (rowF .nil 24 (List.map e40 v726)), (.v (.sl .nonfull (List.map e42 ([(⟨(a0.fClasses.length : Int), 0⟩ : S42)]))))]), .dead, .dead, .dead, .dead, (b4_4 v554), .dead, .dead, .dead, .dead, (b4_5 v736), .dead, (b4_6 v737), .dead, .dead, .dead, .dead, (appO 1 (List.map eI v759)), (rowO 5 (List.map e40 v726))]⟩ (by generalize v759 = z0; generalize v726 = z1; cases z0 <;> cases z1 <;> (as_aux_lemma => kernel_rfl)) ?_
   refine seqQ.n ?_
   refine Wp.rg ?_
   refine Ops.sg 2 2 ?_
   refine Ops.dn ?_
   refine lpQ.n ⟨q2 ((.ptr 1 0) :: (.ptr 2 0) :: q1 ((dP eS v2) :: (dI (a0.fClasses.length : Int)) :: (.ptr 6 0) :: (dI v542) :: q2 ((.ptr 16 0) :: (appD 19 (List.map eI v759)) :: q32 ((dP e37 a0.fClasses) :: (dI (a0.fClasses.length : Int)) :: (dI v542) :: q5 ((dP e34 v554.fItems) :: (dI (v554.fItems.length : Int)) :: (dI v724) :: q10 ((dP eS v736.fTags) :: (dI (v736.fTags.length : Int)) :: (dI (w64 (v747 + 1))) :: q40 (q40 (q23 [])))))))), [(b4_0 a0), b4_1, b4_2, (b4_3 v1), .dead, .dead, (.cells [(dI v725), (rowF .nil 20 (List.map e40 v726)), (.v (.sl .nonfull (List.map e42 ([(⟨(a0.fClasses.length : Int), 0⟩ : S42)]))))]), .dead, .dead, .dead, .dead, (b4_4 v554), .dead, .dead, .dead, .dead, (b4_5 v736), .dead, (b4_6 v737), (appO 1 (List.map eI v759)), (rowO 5 (List.map e40 v726))]⟩ (by generalize v759 = z0; generalize v726 = z1; cases z0 <;> cases z1 <;> (as_aux_lemma => kernel_rfl)) ?_
   cases h
   exact ihx751 v759 (w64 (v747 + 1))  _ hsx756 _ (by omega) hrx752 hxx753
  ·refine Wp.exit (id := 4) (by kernel_rfl) ?_
   refine sqQ.x ?_
   refine seqQ.x ?_
   cases h
   refine lpQ.x ?_
   refine blkQ.x ⟨q2 ((.ptr 1 0) :: (.ptr 2 0) :: q1 ((dP eS v2) :: (dI (a0.fClasses.length : Int)) :: (.ptr 6 0) :: (dI v542) :: q2 ((.ptr 16 0) :: (appD 19 (List.map eI v746)) :: q32 ((dP e37 a0.fClasses) :: (dI (a0.fClasses.length : Int)) :: (dI v542) :: q5 ((dP e34 v554.fItems) :: (dI (v554.fItems.length : Int)) :: (dI v724) :: q40 (q40 (q36 []))))))), [(b4_0 a0), b4_1, b4_2, (b4_3 v1), .dead, .dead, (.cells [(dI v725), (rowF .nil 20 (List.map e40 v726)), (.v (.sl .nonfull (List.map e42 ([(⟨(a0.fClasses.length : Int), 0⟩ : S42)]))))]), .dead, .dead, .dead, .dead, (b4_4 v554), .dead, .dead, .dead, .dead, (b4_5 v736), .dead, (b4_6 v737), (appO 1 (List.map eI v746)), (rowO 5 (List.map e40 v726))]⟩ (by generalize v746 = z0; generalize v726 = z1; cases z0 <;> cases z1 <;> (as_aux_lemma => kernel_rfl)) ?_
   exact hxx753 (v746, v747)  hsx756
theorem f4_hLx819 (m : Nat) (a0 : S23) (o : (S27 × S29)) (n : Nat) (hn : m + 6 ≤ n + 1) (v2 : (List ByteArray)) (v542 : Int) (v554 : S37) (nx547 : Nat) (v1 : S29) : ∀ (kx728 : Nat) (v724 : Int) (v725 : Int) (v726 : (List S40))  (ox727 : (S27 × S29) ⊕ (Int × Int × (List S40))), iter (fun (y : Int × Int × (List S40)) => f4_B7 m a0 v2 v542 v554 y.1 y.2.1 y.2.2) kx728 (v724, v725, v726) = some ox727 → ∀ nx729, kx728 ≤ nx729 → (∀ r, ox727 = .inl r → ∀ σ, RetOk (X4 n) (resOf Proofs.Tryd.prog 4) (.tuple [e27 r.1, e29 r.2]) σ → (blkQ (X4 n) 1 k4_1 11 (seqQ (X4 n) p4_2 (lpQ (X4 n) k4_1 7 p4_1 nx547 (blkQ (X4 n) 0 [2, 3, 7] 7 (seqQ (X4 n) p4_0 (fnQ (X4 n).E.T (resOf Proofs.Tryd.prog 4) (.tuple [e27 o.1, e29 o.2]))))))) .ret σ) → (∀ (y : Int × Int × (List S40)) , ox727 = .inr y → (blkQ (X4 n) 1 k4_1 11 (seqQ (X4 n) p4_2 (lpQ (X4 n) k4_1 7 p4_1 nx547 (blkQ (X4 n) 0 [2, 3, 7] 7 (seqQ (X4 n) p4_0 (fnQ (X4 n).E.T (resOf Proofs.Tryd.prog 4) (.tuple [e27 o.1, e29 o.2]))))))) .normal ⟨q2 ((.ptr 1 0) :: (.ptr 2 0) :: q1 ((dP eS v2) :: (dI (a0.fClasses.length : Int)) :: (.ptr 6 0) :: q37 ((dP e37 a0.fClasses) :: (dI (a0.fClasses.length : Int)) :: (dI v542) :: q40 (q40 (q40 (q4 [])))))), [(b4_0 a0), b4_1, b4_2, (b4_3 v1), .dead, .dead, (.cells [(dI y.2.1), (rowF .nil 13 (List.map e40 y.2.2)), (.v (.sl .nonfull (List.map e42 ([(⟨(a0.fClasses.length : Int), 0⟩ : S42)]))))]), .dead, .dead, .dead, .dead, (b4_4 v554), .dead, (rowO 5 (List.map e40 y.2.2))]⟩) → Lp (X4 n) k4_0 12 p4_3 nx729 ⟨q2 ((.ptr 1 0) :: (.ptr 2 0) :: q1 ((dP eS v2) :: (dI (a0.fClasses.length : Int)) :: (.ptr 6 0) :: (dI v542) :: q36 ((dP e37 a0.fClasses) :: (dI (a0.fClasses.length : Int)) :: (dI v542) :: q5 ((dP e34 v554.fItems) :: (dI (v554.fItems.length : Int)) :: (dI v724) :: q40 (q40 (q36 [])))))), [(b4_0 a0), b4_1, b4_2, (b4_3 v1), .dead, .dead, (.cells [(dI v725), (rowF .nil 13 (List.map e40 v726)), (.v (.sl .nonfull (List.map e42 ([(⟨(a0.fClasses.length : Int), 0⟩ : S42)]))))]), .dead, .dead, .dead, .dead, (b4_4 v554), .dead, (rowO 5 (List.map e40 v726))]⟩ (blkQ (X4 n) 2 k4_1 12 (blkQ (X4 n) 1 k4_1 11 (seqQ (X4 n) p4_2 (lpQ (X4 n) k4_1 7 p4_1 nx547 (blkQ (X4 n) 0 [2, 3, 7] 7 (seqQ (X4 n) p4_0 (fnQ (X4 n).E.T (resOf Proofs.Tryd.prog 4) (.tuple [e27 o.1, e29 o.2])))))))) := by
 intro kx728
 induction kx728 with
 | zero => intro v724 v725 v726  ox727 h; exact (iter_zero h).elim
 | succ kx728 ihx730 =>
  intro v724 v725 v726  ox727 h nx729 hnx733 hrx731 hxx732
  obtain ⟨nx729, rfl⟩ : ∃ q, nx729 = q + 1 := ⟨nx729 - 1, by omega⟩
  obtain ⟨sx734, h, hsx735⟩ := iter_some h
  have h : f4_B7 m a0 v2 v542 v554 v724 v725 v726 = some sx734 := h
  unfold f4_B7 at h
  refine Lp.succ ?_
  refine Wp.sq ?_
  refine Wp.rg ?_
  refine Ops.sg 1 1 ?_
  refine Ops.dn ?_
  refine seqQ.n ?_
  refine Wp.sq ?_
  refine Wp.cnd h k4_0 14 (by kernel_rfl) (fun h => ?_) (fun h => ?_)
  ·refine Wp.sk ?_
   refine sqQ.n ⟨q2 ((.ptr 1 0) :: (.ptr 2 0) :: q1 ((dP eS v2) :: (dI (a0.fClasses.length : Int)) :: (.ptr 6 0) :: (dI v542) :: q36 ((dP e37 a0.fClasses) :: (dI (a0.fClasses.length : Int)) :: (dI v542) :: q5 ((dP e34 v554.fItems) :: (dI (v554.fItems.length : Int)) :: (dI v724) :: q40 (q40 (q36 [])))))), [(b4_0 a0), b4_1, b4_2, (b4_3 v1), .dead, .dead, (.cells [(dI v725), (rowF .nil 15 (List.map e40 v726)), (.v (.sl .nonfull (List.map e42 ([(⟨(a0.fClasses.length : Int), 0⟩ : S42)]))))]), .dead, .dead, .dead, .dead, (b4_4 v554), .dead, .dead, .dead, (rowO 5 (List.map e40 v726))]⟩ (by generalize v726 = z0; cases z0 <;> kernel_rfl) ?_
   refine seqQ.n ?_
   refine Wp.sq ?_
   refine Wp.block' 3 k4_0 16 (by kernel_rfl) ?_
   refine Wp.sq ?_
   refine Wp.rg ?_
   obtain ⟨v736, ev736, h⟩ := bnd_some h
   refine Ops.on 1 (fun h0 e0 => (ix_r (T := T) h0 36 35 5 .plain e34 v554.fItems v724 v736 ev736 (by kernel_rfl) (by kernel_rfl) (fun _ => rfl))) ?_
   refine Ops.sg 3 4 ?_
   refine Ops.dn ?_
   refine seqQ.n ?_
   refine Wp.sq ?_
   refine Wp.rg ?_
   refine Ops.sg 2 2 ?_
   obtain ⟨v737, ev737, h⟩ := bnd_some h
   refine Ops.on 3 (fun h0 e0 => (call_keep (E' := EG) (h := h0) (by kernel_rfl) (by kernel_rfl) (by kernel_rfl) (ArgsC.cons (.v (.str v736.fBase)) (.v (eS v736.fBase)) (by kernel_rfl) ArgsC.nil) (ok9 m v736.fBase v737 ev737 n (by omega)))) ?_
   refine Ops.sg 6 9 ?_
   refine Ops.dn ?_
   refine seqQ.n ?_
   refine Wp.sq ?_
   refine Wp.sq ?_
   refine Wp.rg ?_
   refine Ops.sg 2 2 ?_
   refine Ops.on 3 (fun h0 e0 => (len_r (T := T) h0 33 9 .plain eS v736.fTags (by kernel_rfl))) ?_
   refine Ops.sg 1 4 ?_
   refine Ops.dn ?_
   refine seqQ.n ?_
   refine Wp.block' 4 [2, 3, 5, 6, 7, 8, 11, 12, 45, 46, 47, 53, 54, 55] 19 (by kernel_rfl) ?_
   have hLx760 := f4_hLx760 m a0 o n hn v2 v736 nx729 nx547 v542 v554 v724 v1 v725 v726 v737
   refine Wp.loop' k4_4 19 (by kernel_rfl) ⟨q2 ((.ptr 1 0) :: (.ptr 2 0) :: q1 ((dP eS v2) :: (dI (a0.fClasses.length : Int)) :: (.ptr 6 0) :: (dI v542) :: q2 ((.ptr 16 0) :: (appD 19 (List.map eI v737.1)) :: q32 ((dP e37 a0.fClasses) :: (dI (a0.fClasses.length : Int)) :: (dI v542) :: q5 ((dP e34 v554.fItems) :: (dI (v554.fItems.length : Int)) :: (dI v724) :: q10 ((dP eS v736.fTags) :: (dI (v736.fTags.length : Int)) :: (dI 0) :: q40 (q40 (q23 [])))))))), [(b4_0 a0), b4_1, b4_2, (b4_3 v1), .dead, .dead, (.cells [(dI v725), (rowF .nil 20 (List.map e40 v726)), (.v (.sl .nonfull (List.map e42 ([(⟨(a0.fClasses.length : Int), 0⟩ : S42)]))))]), .dead, .dead, .dead, .dead, (b4_4 v554), .dead, .dead, .dead, .dead, (b4_5 v736), .dead, (b4_6 v737), (appO 1 (List.map eI v737.1)), (rowO 5 (List.map e40 v726))]⟩ (by generalize v737.1 = z0; generalize v726 = z1; cases z0 <;> cases z1 <;> (as_aux_lemma => kernel_rfl)) ?_
   rcases brk_some h with ⟨r762, er762, h⟩ | ⟨y761, ey761, h⟩
   ·refine hLx760 _ v737.1 0  _ er762 n (by omega) (fun r er σ hσ => ?_) (fun y  ey => by cases ey)
    cases er
    refine seqQ.r ?_
    refine blkQ.r ?_
    refine seqQ.r ?_
    refine lpQ.r ?_
    cases h
    refine blkQ.r ?_
    exact hrx731 _ hsx735 _ (RetOk.forget k4_0 (by kernel_rfl) hσ)
   ·refine hLx760 _ v737.1 0  _ ey761 n (by omega) (fun r er => by cases er) (fun y  ey => ?_)
    cases ey
    refine seqQ.n ?_
    refine Wp.sq ?_
    refine Wp.rg ?_
    refine Ops.sg 2 2 ?_
    obtain ⟨v763, ev763, h⟩ := bnd_some h
    refine Ops.on 3 (fun h0 e0 => (call_keep (E' := EG) (h := h0) (by kernel_rfl) (by kernel_rfl) (by kernel_rfl) (ArgsC.cons (.v (.str v736.fForm)) (.v (eS v736.fForm)) (by kernel_rfl) ArgsC.nil) (ok9 m v736.fForm v763 ev763 n (by omega)))) ?_
    refine Ops.sg 6 9 ?_
    refine Ops.dn ?_
    refine seqQ.n ?_
    refine Wp.sq ?_
    refine Wp.rg ?_
    refine Ops.sg 2 2 ?_
    refine Ops.dn ?_
    refine seqQ.n ?_
    refine Wp.sq ?_
    refine Wp.sq ?_
    refine Wp.rg ?_
    refine Ops.sg 3 3 ?_
    refine Ops.dn ?_
    refine seqQ.n ?_
    have J4j765 : ∀ (v764 : Int) , f4_j6 m v542 v724 v725 v726 v736 y761 v763 v764 = some sx734 → (seqQ (X4 n) p4_7 (blkQ (X4 n) 3 k4_0 16 (seqQ (X4 n) p4_4 (lpQ (X4 n) k4_0 12 p4_3 nx729 (blkQ (X4 n) 2 k4_1 12 (blkQ (X4 n) 1 k4_1 11 (seqQ (X4 n) p4_2 (lpQ (X4 n) k4_1 7 p4_1 nx547 (blkQ (X4 n) 0 [2, 3, 7] 7 (seqQ (X4 n) p4_0 (fnQ (X4 n).E.T (resOf Proofs.Tryd.prog 4) (.tuple [e27 o.1, e29 o.2])))))))))))) .normal ⟨q2 ((.ptr 1 0) :: (.ptr 2 0) :: q1 ((dP eS v2) :: (dI (a0.fClasses.length : Int)) :: (.ptr 6 0) :: (dI v542) :: q2 ((.ptr 16 0) :: (appD 23 (List.map eI y761.1)) :: q5 ((appD 21 (List.map eI v763.1)) :: q1 ((dI v764) :: q24 ((dP e37 a0.fClasses) :: (dI (a0.fClasses.length : Int)) :: (dI v542) :: q5 ((dP e34 v554.fItems) :: (dI (v554.fItems.length : Int)) :: (dI v724) :: q40 (q40 (q36 []))))))))), [(b4_0 a0), b4_1, b4_2, (b4_3 v1), .dead, .dead, (.cells [(dI v725), (rowF .nil 24 (List.map e40 v726)), (.v (.sl .nonfull (List.map e42 ([(⟨(a0.fClasses.length : Int), 0⟩ : S42)]))))]), .dead, .dead, .dead, .dead, (b4_4 v554), .dead, .dead, .dead, .dead, (b4_5 v736), .dead, (b4_6 v737), .dead, .dead, (appO 1 (List.map eI v763.1)), (b4_6 v763), (appO 1 (List.map eI y761.1)), (rowO 5 (List.map e40 v726))]⟩ := by
     intro v764  h
     unfold f4_j6 at h
     refine seqQ.n ?_
     refine Wp.sq ?_
     refine Wp.rg ?_
     refine Ops.sg 1 1 ?_
     refine Ops.on 2 (fun h0 e0 => (len_a (T := T) (g := .nil) h0 47 3 23 eI y761.1 (by kernel_rfl))) ?_
     refine Ops.sg 1 3 ?_
     refine Ops.on 4 (fun h0 e0 => (len_a (T := T) (g := .nil) h0 47 3 21 eI v763.1 (by kernel_rfl))) ?_
     refine Ops.sg 2 6 ?_
     refine Ops.dn ?_
     refine seqQ.n ?_
     refine Wp.sq ?_
     refine Wp.rg ?_
     refine Ops.sg 5 5 ?_
     refine Ops.dn ?_
     refine seqQ.n ?_
     refine Wp.sq ?_
     refine Wp.sq ?_
     refine Wp.rg ?_
     refine Ops.sg 2 2 ?_
     refine Ops.dn ?_
     refine seqQ.n ?_
     refine Wp.block' 6 k4_0 25 (by kernel_rfl) ?_
     have hLx815 := f4_hLx815 m a0 o n hn y761 v763 v764 nx729 nx547 v2 v542 v554 v724 v1 v736 v737
     refine Wp.loop' k4_2 25 (by kernel_rfl) ⟨q2 ((.ptr 1 0) :: (.ptr 2 0) :: q1 ((dP eS v2) :: (dI (a0.fClasses.length : Int)) :: (.ptr 6 0) :: (dI v542) :: q3 ((appD 25 (List.map eI y761.1)) :: q5 ((appD 21 (List.map eI v763.1)) :: q1 ((dI v764) :: (dI (if 1 > (if (v763.1.length : Int) > (y761.1.length : Int) then (v763.1.length : Int) else (y761.1.length : Int)) then 1 else (if (v763.1.length : Int) > (y761.1.length : Int) then (v763.1.length : Int) else (y761.1.length : Int)))) :: (dI v542) :: (dI v736.fWeight) :: q21 ((dP e37 a0.fClasses) :: (dI (a0.fClasses.length : Int)) :: (dI v542) :: q5 ((dP e34 v554.fItems) :: (dI (v554.fItems.length : Int)) :: (dI v724) :: q40 (q8 ((dI (if 1 > (if (v763.1.length : Int) > (y761.1.length : Int) then (v763.1.length : Int) else (y761.1.length : Int)) then 1 else (if (v763.1.length : Int) > (y761.1.length : Int) then (v763.1.length : Int) else (y761.1.length : Int)))) :: (dI 0) :: q40 (q26 [])))))))))), [(b4_0 a0), b4_1, b4_2, (b4_3 v1), .dead, .dead, (.cells [(dI v725), (rowF .nil 26 (List.map e40 v726)), (.v (.sl .nonfull (List.map e42 ([(⟨(a0.fClasses.length : Int), 0⟩ : S42)]))))]), .dead, .dead, .dead, .dead, (b4_4 v554), .dead, .dead, .dead, .dead, (b4_5 v736), .dead, (b4_6 v737), .dead, .dead, (appO 1 (List.map eI v763.1)), (b4_6 v763), .dead, .dead, (appO 1 (List.map eI y761.1)), (rowO 5 (List.map e40 v726))]⟩ (by generalize y761.1 = z0; generalize v763.1 = z1; generalize v726 = z2; cases z0 <;> cases z1 <;> cases z2 <;> (as_aux_lemma => kernel_rfl)) ?_
     rcases brk_some h with ⟨r817, er817, h⟩ | ⟨y816, ey816, h⟩
     ·refine hLx815 _ v542 v736.fWeight 0 v725 v726  _ er817 n (by omega) (fun r er σ hσ => ?_) (fun y  ey => by cases ey)
      cases er
      refine seqQ.r ?_
      refine blkQ.r ?_
      refine seqQ.r ?_
      refine lpQ.r ?_
      cases h
      refine blkQ.r ?_
      exact hrx731 _ hsx735 _ (RetOk.forget k4_0 (by kernel_rfl) hσ)
     ·refine hLx815 _ v542 v736.fWeight 0 v725 v726  _ ey816 n (by omega) (fun r er => by cases er) (fun y  ey => ?_)
      cases ey
      refine seqQ.n ?_
      refine Wp.sq ?_
      refine Wp.rg ?_
      refine Ops.sg 3 3 ?_
      refine Ops.dn ?_
      refine seqQ.n ?_
      refine Wp.cnd h k4_0 27 (by kernel_rfl) (fun h => ?_) (fun h => ?_)
      ·refine Wp.sq ?_
       refine Wp.rg ?_
       refine Ops.sg 1 1 ?_
       obtain ⟨v818, ev818, h⟩ := bnd_some h
       refine Ops.on 2 (fun h0 e0 => (call_ok (E' := EG) (h := h0) (by kernel_rfl) (Args.v (vI 17) (eI 17) (by kernel_rfl) (Args.v (vI (-1)) (eI (-1)) (by kernel_rfl) Args.nil)) (ok11 m 17 (-1) v818 ev818 n (by omega)))) ?_
       refine Ops.sg 2 4 ?_
       refine Ops.dn ?_
       refine seqQ.n ?_
       refine Wp.ret (by kernel_rfl) ?_
       refine sqQ.r ?_
       refine blkQ.r ?_
       refine seqQ.r ?_
       cases h
       refine lpQ.r ?_
       refine blkQ.r ?_
       exact hrx731 _ hsx735 _ (RetOk.forget k4_0 (by kernel_rfl) (RetOk.mk' (.v (.tuple [(.agg [(vI 0), (.sl .nil (List.map e40 [])), (.sl .nil (List.map e42 []))]), (.agg [(vI v818.fCode), (vI v818.fIndex)])])) (by kernel_rfl) (by kernel_rfl)))
      ·refine Wp.sk ?_
       refine sqQ.n ⟨q2 ((.ptr 1 0) :: (.ptr 2 0) :: q1 ((dP eS v2) :: (dI (a0.fClasses.length : Int)) :: (.ptr 6 0) :: (dI v542) :: q36 ((dP e37 a0.fClasses) :: (dI (a0.fClasses.length : Int)) :: (dI v542) :: q5 ((dP e34 v554.fItems) :: (dI (v554.fItems.length : Int)) :: (dI v724) :: q40 (q40 (q36 [])))))), [(b4_0 a0), b4_1, b4_2, (b4_3 v1), .dead, .dead, (.cells [(dI y816.2.2.2.1), (rowF .nil 28 (List.map e40 y816.2.2.2.2)), (.v (.sl .nonfull (List.map e42 ([(⟨(a0.fClasses.length : Int), 0⟩ : S42)]))))]), .dead, .dead, .dead, .dead, (b4_4 v554), .dead, .dead, .dead, .dead, (b4_5 v736), .dead, (b4_6 v737), .dead, .dead, (appO 1 (List.map eI v763.1)), (b4_6 v763), .dead, .dead, (appO 1 (List.map eI y761.1)), .dead, .dead, (rowO 5 (List.map e40 y816.2.2.2.2))]⟩ (by generalize y816.2.2.2.2 = z0; generalize v763.1 = z1; generalize y761.1 = z2; cases z0 <;> cases z1 <;> cases z2 <;> (as_aux_lemma => kernel_rfl)) ?_
       refine blkQ.n ⟨q2 ((.ptr 1 0) :: (.ptr 2 0) :: q1 ((dP eS v2) :: (dI (a0.fClasses.length : Int)) :: (.ptr 6 0) :: (dI v542) :: q36 ((dP e37 a0.fClasses) :: (dI (a0.fClasses.length : Int)) :: (dI v542) :: q5 ((dP e34 v554.fItems) :: (dI (v554.fItems.length : Int)) :: (dI v724) :: q40 (q40 (q36 [])))))), [(b4_0 a0), b4_1, b4_2, (b4_3 v1), .dead, .dead, (.cells [(dI y816.2.2.2.1), (rowF .nil 17 (List.map e40 y816.2.2.2.2)), (.v (.sl .nonfull (List.map e42 ([(⟨(a0.fClasses.length : Int), 0⟩ : S42)]))))]), .dead, .dead, .dead, .dead, (b4_4 v554), .dead, .dead, .dead, .dead, .dead, (rowO 5 (List.map e40 y816.2.2.2.2))]⟩ (by generalize y816.2.2.2.2 = z0; cases z0 <;> kernel_rfl) ?_
       refine seqQ.n ?_
       refine Wp.rg ?_
       refine Ops.sg 2 2 ?_
       refine Ops.dn ?_
       refine lpQ.n ⟨q2 ((.ptr 1 0) :: (.ptr 2 0) :: q1 ((dP eS v2) :: (dI (a0.fClasses.length : Int)) :: (.ptr 6 0) :: (dI v542) :: q36 ((dP e37 a0.fClasses) :: (dI (a0.fClasses.length : Int)) :: (dI v542) :: q5 ((dP e34 v554.fItems) :: (dI (v554.fItems.length : Int)) :: (dI (w64 (v724 + 1))) :: q40 (q40 (q36 [])))))), [(b4_0 a0), b4_1, b4_2, (b4_3 v1), .dead, .dead, (.cells [(dI y816.2.2.2.1), (rowF .nil 13 (List.map e40 y816.2.2.2.2)), (.v (.sl .nonfull (List.map e42 ([(⟨(a0.fClasses.length : Int), 0⟩ : S42)]))))]), .dead, .dead, .dead, .dead, (b4_4 v554), .dead, (rowO 5 (List.map e40 y816.2.2.2.2))]⟩ (by generalize y816.2.2.2.2 = z0; cases z0 <;> kernel_rfl) ?_
       cases h
       exact ihx730 (w64 (v724 + 1)) y816.2.2.2.1 y816.2.2.2.2  _ hsx735 _ (by omega) hrx731 hxx732
    refine Wp.cnd h [2, 3, 5, 6, 7, 8, 11, 12, 18, 20, 45, 46, 47, 53, 54, 55] 23 (by kernel_rfl) (fun h => ?_) (fun h => ?_)
    ·refine Wp.rg ?_
     refine Ops.sg 3 3 ?_
     refine Ops.dn ?_
     refine sqQ.n ⟨q2 ((.ptr 1 0) :: (.ptr 2 0) :: q1 ((dP eS v2) :: (dI (a0.fClasses.length : Int)) :: (.ptr 6 0) :: (dI v542) :: q2 ((.ptr 16 0) :: (appD 23 (List.map eI y761.1)) :: q5 ((appD 21 (List.map eI v763.1)) :: q1 ((dI v736.fNext) :: q24 ((dP e37 a0.fClasses) :: (dI (a0.fClasses.length : Int)) :: (dI v542) :: q5 ((dP e34 v554.fItems) :: (dI (v554.fItems.length : Int)) :: (dI v724) :: q40 (q40 (q36 []))))))))), [(b4_0 a0), b4_1, b4_2, (b4_3 v1), .dead, .dead, (.cells [(dI v725), (rowF .nil 24 (List.map e40 v726)), (.v (.sl .nonfull (List.map e42 ([(⟨(a0.fClasses.length : Int), 0⟩ : S42)]))))]), .dead, .dead, .dead, .dead, (b4_4 v554), .dead, .dead, .dead, .dead, (b4_5 v736), .dead, (b4_6 v737), .dead, .dead, (appO 1 (List.map eI v763.1)), (b4_6 v763), (appO 1 (List.map eI y761.1)), (rowO 5 (List.map e40 v726))]⟩ (by generalize y761.1 = z0; generalize v763.1 = z1; generalize v726 = z2; cases z0 <;> cases z1 <;> cases z2 <;> (as_aux_lemma => kernel_rfl)) ?_
     exact J4j765 v736.fNext  h
    ·refine Wp.sk ?_
     refine sqQ.n ⟨q2 ((.ptr 1 0) :: (.ptr 2 0) :: q1 ((dP eS v2) :: (dI (a0.fClasses.length : Int)) :: (.ptr 6 0) :: (dI v542) :: q2 ((.ptr 16 0) :: (appD 23 (List.map eI y761.1)) :: q5 ((appD 21 (List.map eI v763.1)) :: q1 ((dI (a0.fClasses.length : Int)) :: q24 ((dP e37 a0.fClasses) :: (dI (a0.fClasses.length : Int)) :: (dI v542) :: q5 ((dP e34 v554.fItems) :: (dI (v554.fItems.length : Int)) :: (dI v724) :: q40 (q40 (q36 []))))))))), [(b4_0 a0), b4_1, b4_2, (b4_3 v1), .dead, .dead, (.cells [(dI v725), (rowF .nil 24 (List.map e40 v726)), (.v (.sl .nonfull (List.map e42 ([(⟨(a0.fClasses.length : Int), 0⟩ : S42)]))))]), .dead, .dead, .dead, .dead, (b4_4 v554), .dead, .dead, .dead, .dead, (b4_5 v736), .dead, (b4_6 v737), .dead, .dead, (appO 1 (List.map eI v763.1)), (b4_6 v763), (appO 1 (List.map eI y761.1)), (rowO 5 (List.map e40 v726))]⟩ (by generalize y761.1 = z0; generalize v763.1 = z1; generalize v726 = z2; cases z0 <;> cases z1 <;> cases z2 <;> (as_aux_lemma => kernel_rfl)) ?_
     exact J4j765 (a0.fClasses.length : Int)  h
  ·refine Wp.exit (id := 2) (by kernel_rfl) ?_
   refine sqQ.x ?_
   refine seqQ.x ?_
   cases h
   refine lpQ.x ?_
   refine blkQ.x ⟨q2 ((.ptr 1 0) :: (.ptr 2 0) :: q1 ((dP eS v2) :: (dI (a0.fClasses.length : Int)) :: (.ptr 6 0) :: q37 ((dP e37 a0.fClasses) :: (dI (a0.fClasses.length : Int)) :: (dI v542) :: q40 (q40 (q40 (q4 [])))))), [(b4_0 a0), b4_1, b4_2, (b4_3 v1), .dead, .dead, (.cells [(dI v725), (rowF .nil 13 (List.map e40 v726)), (.v (.sl .nonfull (List.map e42 ([(⟨(a0.fClasses.length : Int), 0⟩ : S42)]))))]), .dead, .dead, .dead, .dead, (b4_4 v554), .dead, (rowO 5 (List.map e40 v726))]⟩ (by generalize v726 = z0; cases z0 <;> kernel_rfl) ?_
   exact hxx732 (v724, v725, v726)  hsx735
theorem ok4 (m : Nat) (a0 : S23) (o : (S27 × S29)) (h : f4 m a0 = some o) (n : Nat) (hn : m + 6 ≤ n) : Fn Proofs.Tryd.prog EG n 4 [.v (e23 a0)] (.tuple [e27 o.1, e29 o.2]) := by
 obtain ⟨n, rfl⟩ : ∃ q, n = q + 1 := ⟨n - 1, by omega⟩
 unfold f4 at h
 refine Fn.of (by kernel_rfl) (by kernel_rfl) (by kernel_rfl) ⟨(.v (.agg [(vP e37 a0.fClasses)])) :: u40 (u40 (u40 (u40 (u11 [])))), []⟩ (by kernel_rfl) ?_
 refine Wp.sq ?_
 refine Wp.rg ?_
 refine Ops.sg 3 3 ?_
 refine Ops.dn ?_
 refine seqQ.n ?_
 refine Wp.sq ?_
 refine Wp.sq ?_
 refine Wp.rg ?_
 refine Ops.sg 1 1 ?_
 obtain ⟨v1, ev1, h⟩ := bnd_some h
 refine Ops.on 2 (fun h0 e0 => (call_ok (E' := EG) (h := h0) (by kernel_rfl) (Args.v (.agg [(vP e37 a0.fClasses)]) (e23 a0) (by kernel_rfl) Args.nil) (ok7 m a0 v1 ev1 n (by omega)))) ?_
 refine Ops.sg 2 4 ?_
 refine Ops.dn ?_
 refine seqQ.n ?_
 refine Wp.sq ?_
 refine Wp.rg ?_
 refine Ops.sg 3 3 ?_
 refine Ops.dn ?_
 refine seqQ.n ?_
 refine Wp.cnd h [1, 2, 3] 4 (by kernel_rfl) (fun h => ?_) (fun h => ?_)
 ·refine Wp.sq ?_
  refine Wp.regionF (by kernel_rfl) ?_
  refine Ops.sg 4 4 ?_
  refine Ops.dn ?_
  refine seqQ.n ?_
  refine Wp.ret (by kernel_rfl) ?_
  refine sqQ.r ?_
  refine seqQ.r ?_
  exact fnQ.r' (X4 n) (fun z => (.tuple [e27 z.1, e29 z.2])) h (RetOk.mk' (.v (.tuple [(.agg [(vI 0), (.sl .nil (List.map e40 [])), (.sl .nil (List.map e42 []))]), (.agg [(vI v1.fCode), (vI v1.fIndex)])])) (by kernel_rfl) (by kernel_rfl))
 ·refine Wp.sk ?_
  refine sqQ.n' ?_
  refine seqQ.n ?_
  refine Wp.sq ?_
  refine Wp.rg ?_
  refine Ops.sg 1 1 ?_
  obtain ⟨v2, ev2, h⟩ := bnd_some h
  refine Ops.on 2 (fun h0 e0 => (call_ok (E' := EG) (h := h0) (by kernel_rfl) (Args.v (.agg [(vP e37 a0.fClasses)]) (e23 a0) (by kernel_rfl) Args.nil) (ok8 m a0 v2 ev2 n (by omega)).fn)) ?_
  refine Ops.sg 1 3 ?_
  refine Ops.dn ?_
  refine seqQ.n ?_
  refine Wp.sq ?_
  refine Wp.rg ?_
  refine Ops.sg 2 2 ?_
  refine Ops.on 3 (fun h0 e0 => (len_r (T := T) h0 22 38 .plain e37 a0.fClasses (by kernel_rfl))) ?_
  refine Ops.sg 1 4 ?_
  refine Ops.dn ?_
  refine seqQ.n ?_
  refine Wp.sq ?_
  refine Wp.rg ?_
  refine Ops.sg 8 8 ?_
  refine Ops.dn ?_
  refine seqQ.n ?_
  refine Wp.sq ?_
  refine Wp.sq ?_
  refine Wp.rg ?_
  refine Ops.sg 2 2 ?_
  refine Ops.on 3 (fun h0 e0 => (len_r (T := T) h0 22 38 .plain e37 a0.fClasses (by kernel_rfl))) ?_
  refine Ops.sg 1 4 ?_
  refine Ops.dn ?_
  refine seqQ.n ?_
  refine Wp.block' 0 [2, 3, 7] 7 (by kernel_rfl) ?_
  have hLx822 : ∀ (kx546 : Nat) (v542 : Int) (v543 : Int) (v544 : (List S40))  (ox545 : (S27 × S29) ⊕ (Int × Int × (List S40))), iter (fun (y : Int × Int × (List S40)) => f4_B8 m a0 v2 y.1 y.2.1 y.2.2) kx546 (v542, v543, v544) = some ox545 → ∀ nx547, kx546 ≤ nx547 → (∀ r, ox545 = .inl r → ∀ σ, RetOk (X4 n) (resOf Proofs.Tryd.prog 4) (.tuple [e27 r.1, e29 r.2]) σ → (seqQ (X4 n) p4_0 (fnQ (X4 n).E.T (resOf Proofs.Tryd.prog 4) (.tuple [e27 o.1, e29 o.2]))) .ret σ) → (∀ (y : Int × Int × (List S40)) , ox545 = .inr y → (seqQ (X4 n) p4_0 (fnQ (X4 n).E.T (resOf Proofs.Tryd.prog 4) (.tuple [e27 o.1, e29 o.2]))) .normal ⟨q2 ((.ptr 1 0) :: (.ptr 2 0) :: q3 ((.ptr 6 0) :: q40 (q40 (q40 (q40 (q4 [])))))), [(b4_0 a0), b4_1, b4_2, (b4_3 v1), .dead, .dead, (.cells [(dI y.2.1), (rowF .nil 8 (List.map e40 y.2.2)), (.v (.sl .nonfull (List.map e42 ([(⟨(a0.fClasses.length : Int), 0⟩ : S42)]))))]), .dead, (rowO 5 (List.map e40 y.2.2))]⟩) → Lp (X4 n) k4_1 7 p4_1 nx547 ⟨q2 ((.ptr 1 0) :: (.ptr 2 0) :: q1 ((dP eS v2) :: (dI (a0.fClasses.length : Int)) :: (.ptr 6 0) :: q37 ((dP e37 a0.fClasses) :: (dI (a0.fClasses.length : Int)) :: (dI v542) :: q40 (q40 (q40 (q4 [])))))), [(b4_0 a0), b4_1, b4_2, (b4_3 v1), .dead, .dead, (.cells [(dI v543), (rowF .nil 8 (List.map e40 v544)), (.v (.sl .nonfull (List.map e42 ([(⟨(a0.fClasses.length : Int), 0⟩ : S42)]))))]), .dead, (rowO 5 (List.map e40 v544))]⟩ (blkQ (X4 n) 0 [2, 3, 7] 7 (seqQ (X4 n) p4_0 (fnQ (X4 n).E.T (resOf Proofs.Tryd.prog 4) (.tuple [e27 o.1, e29 o.2])))) := by
   intro kx546
   induction kx546 with
   | zero => intro v542 v543 v544  ox545 h; exact (iter_zero h).elim
   | succ kx546 ihx548 =>
    intro v542 v543 v544  ox545 h nx547 hnx551 hrx549 hxx550
    obtain ⟨nx547, rfl⟩ : ∃ q, nx547 = q + 1 := ⟨nx547 - 1, by omega⟩
    obtain ⟨sx552, h, hsx553⟩ := iter_some h
    have h : f4_B8 m a0 v2 v542 v543 v544 = some sx552 := h
    unfold f4_B8 at h
    refine Lp.succ ?_
    refine Wp.sq ?_
    refine Wp.rg ?_
    refine Ops.sg 1 1 ?_
    refine Ops.dn ?_
    refine seqQ.n ?_
    refine Wp.sq ?_
    refine Wp.cnd h k4_1 9 (by kernel_rfl) (fun h => ?_) (fun h => ?_)
    ·refine Wp.sk ?_
     refine sqQ.n ⟨q2 ((.ptr 1 0) :: (.ptr 2 0) :: q1 ((dP eS v2) :: (dI (a0.fClasses.length : Int)) :: (.ptr 6 0) :: q37 ((dP e37 a0.fClasses) :: (dI (a0.fClasses.length : Int)) :: (dI v542) :: q40 (q40 (q40 (q4 [])))))), [(b4_0 a0), b4_1, b4_2, (b4_3 v1), .dead, .dead, (.cells [(dI v543), (rowF .nil 10 (List.map e40 v544)), (.v (.sl .nonfull (List.map e42 ([(⟨(a0.fClasses.length : Int), 0⟩ : S42)]))))]), .dead, .dead, .dead, (rowO 5 (List.map e40 v544))]⟩ (by generalize v544 = z0; cases z0 <;> kernel_rfl) ?_
     refine seqQ.n ?_
     refine Wp.sq ?_
     refine Wp.block' 1 k4_1 11 (by kernel_rfl) ?_
     refine Wp.sq ?_
     refine Wp.rg ?_
     refine Ops.sg 1 1 ?_
     obtain ⟨v554, ev554, h⟩ := bnd_some h
     refine Ops.on 2 (fun h0 e0 => (ix_r (T := T) h0 22 38 2 .plain e37 a0.fClasses v542 v554 ev554 (by kernel_rfl) (by kernel_rfl) (fun _ => rfl))) ?_
     refine Ops.sg 4 6 ?_
     refine Ops.dn ?_
     refine seqQ.n ?_
     refine Wp.sq ?_
     refine Wp.rg ?_
     refine Ops.sg 2 2 ?_
     refine Ops.on 3 (fun h0 e0 => (len_r (T := T) h0 36 35 .plain e34 v554.fItems (by kernel_rfl))) ?_
     refine Ops.sg 1 4 ?_
     refine Ops.dn ?_
     refine seqQ.n ?_
     refine Wp.block' 2 k4_1 12 (by kernel_rfl) ?_
     have hLx819 := f4_hLx819 m a0 o n hn v2 v542 v554 nx547 v1
     refine Wp.loop' k4_0 12 (by kernel_rfl) ⟨q2 ((.ptr 1 0) :: (.ptr 2 0) :: q1 ((dP eS v2) :: (dI (a0.fClasses.length : Int)) :: (.ptr 6 0) :: (dI v542) :: q36 ((dP e37 a0.fClasses) :: (dI (a0.fClasses.length : Int)) :: (dI v542) :: q5 ((dP e34 v554.fItems) :: (dI (v554.fItems.length : Int)) :: (dI 0) :: q40 (q40 (q36 [])))))), [(b4_0 a0), b4_1, b4_2, (b4_3 v1), .dead, .dead, (.cells [(dI v543), (rowF .nil 13 (List.map e40 v544)), (.v (.sl .nonfull (List.map e42 ([(⟨(a0.fClasses.length : Int), 0⟩ : S42)]))))]), .dead, .dead, .dead, .dead, (b4_4 v554), .dead, (rowO 5 (List.map e40 v544))]⟩ (by generalize v544 = z0; cases z0 <;> kernel_rfl) ?_
     rcases brk_some h with ⟨r821, er821, h⟩ | ⟨y820, ey820, h⟩
     ·refine hLx819 _ 0 v543 v544  _ er821 n (by omega) (fun r er σ hσ => ?_) (fun y  ey => by cases ey)
      cases er
      refine blkQ.r ?_
      refine seqQ.r ?_
      refine lpQ.r ?_
      cases h
      refine blkQ.r ?_
      exact hrx549 _ hsx553 _ (RetOk.forget k4_1 (by kernel_rfl) hσ)
     ·refine hLx819 _ 0 v543 v544  _ ey820 n (by omega) (fun r er => by cases er) (fun y  ey => ?_)
      cases ey
      refine blkQ.n ⟨q2 ((.ptr 1 0) :: (.ptr 2 0) :: q1 ((dP eS v2) :: (dI (a0.fClasses.length : Int)) :: (.ptr 6 0) :: q37 ((dP e37 a0.fClasses) :: (dI (a0.fClasses.length : Int)) :: (dI v542) :: q40 (q40 (q40 (q4 [])))))), [(b4_0 a0), b4_1, b4_2, (b4_3 v1), .dead, .dead, (.cells [(dI y820.2.1), (rowF .nil 12 (List.map e40 y820.2.2)), (.v (.sl .nonfull (List.map e42 ([(⟨(a0.fClasses.length : Int), 0⟩ : S42)]))))]), .dead, .dead, .dead, .dead, .dead, (rowO 5 (List.map e40 y820.2.2))]⟩ (by generalize y820.2.2 = z0; cases z0 <;> kernel_rfl) ?_
      refine seqQ.n ?_
      refine Wp.rg ?_
      refine Ops.sg 2 2 ?_
      refine Ops.dn ?_
      refine lpQ.n ⟨q2 ((.ptr 1 0) :: (.ptr 2 0) :: q1 ((dP eS v2) :: (dI (a0.fClasses.length : Int)) :: (.ptr 6 0) :: q37 ((dP e37 a0.fClasses) :: (dI (a0.fClasses.length : Int)) :: (dI (w64 (v542 + 1))) :: q40 (q40 (q40 (q4 [])))))), [(b4_0 a0), b4_1, b4_2, (b4_3 v1), .dead, .dead, (.cells [(dI y820.2.1), (rowF .nil 8 (List.map e40 y820.2.2)), (.v (.sl .nonfull (List.map e42 ([(⟨(a0.fClasses.length : Int), 0⟩ : S42)]))))]), .dead, (rowO 5 (List.map e40 y820.2.2))]⟩ (by generalize y820.2.2 = z0; cases z0 <;> kernel_rfl) ?_
      cases h
      exact ihx548 (w64 (v542 + 1)) y820.2.1 y820.2.2  _ hsx553 _ (by omega) hrx549 hxx550
    ·refine Wp.exit (id := 0) (by kernel_rfl) ?_
     refine sqQ.x ?_
     refine seqQ.x ?_
     cases h
     refine lpQ.x ?_
     refine blkQ.x ⟨q2 ((.ptr 1 0) :: (.ptr 2 0) :: q3 ((.ptr 6 0) :: q40 (q40 (q40 (q40 (q4 [])))))), [(b4_0 a0), b4_1, b4_2, (b4_3 v1), .dead, .dead, (.cells [(dI v543), (rowF .nil 8 (List.map e40 v544)), (.v (.sl .nonfull (List.map e42 ([(⟨(a0.fClasses.length : Int), 0⟩ : S42)]))))]), .dead, (rowO 5 (List.map e40 v544))]⟩ (by generalize v544 = z0; cases z0 <;> kernel_rfl) ?_
     exact hxx550 (v542, v543, v544)  hsx553
  refine Wp.loop' k4_1 7 (by kernel_rfl) ⟨q2 ((.ptr 1 0) :: (.ptr 2 0) :: q1 ((dP eS v2) :: (dI (a0.fClasses.length : Int)) :: (.ptr 6 0) :: q37 ((dP e37 a0.fClasses) :: (dI (a0.fClasses.length : Int)) :: (dI 0) :: q40 (q40 (q40 (q4 [])))))), [(b4_0 a0), b4_1, b4_2, (b4_3 v1), .dead, .dead, (.cells [(dI (w64 ((a0.fClasses.length : Int) + 1))), (rowF .nil 8 (List.map e40 [])), (.v (.sl .nonfull (List.map e42 ([(⟨(a0.fClasses.length : Int), 0⟩ : S42)]))))]), .dead, (rowO 5 (List.map e40 []))]⟩ (by kernel_rfl) ?_
  rcases brk_some h with ⟨r824, er824, h⟩ | ⟨y823, ey823, h⟩
  ·refine hLx822 _ 0 (w64 ((a0.fClasses.length : Int) + 1)) []  _ er824 n (by omega) (fun r er σ hσ => ?_) (fun y  ey => by cases ey)
   cases er
   refine seqQ.r ?_
   exact fnQ.r' (X4 n) (fun z => (.tuple [e27 z.1, e29 z.2])) h hσ
  ·refine hLx822 _ 0 (w64 ((a0.fClasses.length : Int) + 1)) []  _ ey823 n (by omega) (fun r er => by cases er) (fun y  ey => ?_)
   cases ey
   refine seqQ.n ?_
   refine Wp.sq ?_
   refine Wp.rg ?_
   refine Ops.sg 2 2 ?_
   obtain ⟨v825, ev825, h⟩ := bnd_some h
   refine Ops.on 3 (fun h0 e0 => (callD_own (P := Proofs.Tryd.prog) (E := EG) (E' := EG) (n := n) (f := 12) (by kernel_rfl) (by kernel_rfl) (by kernel_rfl) (row_sort12 h0 8 y823.2.2 v825 ev825 (hq_of e0 (by kernel_rfl))) (by omega))) ?_
   refine Ops.st ⟨q2 ((.ptr 1 0) :: (.ptr 2 0) :: q3 ((.ptr 6 0) :: q40 (q40 (q40 (q29 ((.ptr 6 1) :: (rowF .nil 8 (List.map e40 y823.2.2)) :: u1 (q12 []))))))), [(b4_0 a0), b4_1, b4_2, (b4_3 v1), .dead, .dead, (.cells [(dI y823.2.1), (rowF .nil 8 (List.map e40 y823.2.2)), (.v (.sl .nonfull (List.map e42 ([(⟨(a0.fClasses.length : Int), 0⟩ : S42)]))))]), .dead, (rowO 5 (List.map e40 v825))]⟩ (by kernel_rfl) ?_
   rw [srt12_row 8 ev825]
   refine Ops.dn ?_
   refine seqQ.n ?_
   refine Wp.sq ?_
   refine Wp.rg ?_
   refine Ops.sg 2 2 ?_
   obtain ⟨v826, ev826, h⟩ := bnd_some h
   refine Ops.on 3 (fun h0 e0 => (callD_own (P := Proofs.Tryd.prog) (E := EG) (E' := EG) (n := n) (f := 14) (by kernel_rfl) (by kernel_rfl) (by kernel_rfl) (row_compact14 h0 8 v825 v826 ev826 (hq_of e0 (by kernel_rfl))) (by omega))) ?_
   refine Ops.sg 1 4 ?_
   refine Ops.on 5 (fun h0 e0 => (st_l (i := ti25) (h := h0) (r := 6) (off := 1) (cs := [(dI y823.2.1), (rowF .nil 8 (List.map e40 v825)), (.v (.sl .nonfull (List.map e42 ([(⟨(a0.fClasses.length : Int), 0⟩ : S42)]))))]) (cs' := [(dI y823.2.1), (rowF .nil 8 (List.map e40 v826)), (.v (.sl .nonfull (List.map e42 ([(⟨(a0.fClasses.length : Int), 0⟩ : S42)]))))]) (x := (rowF .nil 8 (List.map e40 v826))) (hq_of (g := [(b4_0 a0), b4_1, b4_2, (b4_3 v1), .dead, .dead, (.cells [(dI y823.2.1), (rowF .nil 8 (List.map e40 v825)), (.v (.sl .nonfull (List.map e42 ([(⟨(a0.fClasses.length : Int), 0⟩ : S42)]))))]), .dead, (rowO 5 (List.map e40 v826))]) (e0.trans (by kernel_rfl)) rfl) (by kernel_rfl) (rowF_one _ _ _) (by rfl))) ?_
   refine Ops.dn ?_
   refine seqQ.n ?_
   refine Wp.sq ?_
   refine Wp.sq ?_
   refine Wp.rg ?_
   refine Ops.sg 2 2 ?_
   refine Ops.on 3 (fun h0 e0 => (len_w (T := T) (g := .nil) h0 25 41 8 e40 v826 (by kernel_rfl))) ?_
   refine Ops.sg 1 4 ?_
   refine Ops.dn ?_
   refine seqQ.n ?_
   refine Wp.cnd h [2, 3, 7] 9 (by kernel_rfl) (fun h => ?_) (fun h => ?_)
   ·refine Wp.sq ?_
    refine Wp.rg ?_
    refine Ops.sg 1 1 ?_
    obtain ⟨v827, ev827, h⟩ := bnd_some h
    refine Ops.on 2 (fun h0 e0 => (call_ok (E' := EG) (h := h0) (by kernel_rfl) (Args.v (vI 17) (eI 17) (by kernel_rfl) (Args.v (vI (-1)) (eI (-1)) (by kernel_rfl) Args.nil)) (ok11 m 17 (-1) v827 ev827 n (by omega)))) ?_
    refine Ops.sg 2 4 ?_
    refine Ops.dn ?_
    refine seqQ.n ?_
    refine Wp.ret (by kernel_rfl) ?_
    refine sqQ.r ?_
    refine seqQ.r ?_
    exact fnQ.r' (X4 n) (fun z => (.tuple [e27 z.1, e29 z.2])) h (RetOk.mk' (.v (.tuple [(.agg [(vI 0), (.sl .nil (List.map e40 [])), (.sl .nil (List.map e42 []))]), (.agg [(vI v827.fCode), (vI v827.fIndex)])])) (by kernel_rfl) (by kernel_rfl))
   ·refine Wp.sk ?_
    refine sqQ.n ⟨q2 ((.ptr 1 0) :: (.ptr 2 0) :: q3 ((.ptr 6 0) :: q40 (q40 (q40 (q40 (q4 [])))))), [(b4_0 a0), b4_1, b4_2, (b4_3 v1), .dead, .dead, (.cells [(dI y823.2.1), (rowF .nil 10 (List.map e40 v826)), (.v (.sl .nonfull (List.map e42 ([(⟨(a0.fClasses.length : Int), 0⟩ : S42)]))))]), .dead, .dead, .dead, (rowO 5 (List.map e40 v826))]⟩ (by generalize v826 = z0; cases z0 <;> kernel_rfl) ?_
    refine seqQ.n ?_
    refine Wp.sq ?_
    refine Wp.rg ?_
    refine Ops.sg 2 2 ?_
    refine Ops.on 3 (fun h0 e0 => (st_s (i := ti28) (h := h0) (r := 1) (off := 0) (cs := [(dI 0), (.v (.sl .nil (List.map e40 []))), (.v (.sl .nil (List.map e42 [])))]) (cs' := [(dI y823.2.1), (rowF .nil 10 (List.map e40 v826)), (.v (.sl .nonfull (List.map e42 ([(⟨(a0.fClasses.length : Int), 0⟩ : S42)]))))]) (ds := [(dI y823.2.1), (rowF .nil 10 (List.map e40 v826)), (.v (.sl .nonfull (List.map e42 ([(⟨(a0.fClasses.length : Int), 0⟩ : S42)]))))]) (hq_of (g := [(b4_0 a0), b4_1, b4_2, (b4_3 v1), .dead, .dead, (.cells [(dI y823.2.1), (rowF .nil 10 (List.map e40 v826)), (.v (.sl .nonfull (List.map e42 ([(⟨(a0.fClasses.length : Int), 0⟩ : S42)]))))]), .dead, .dead, .dead, (rowO 5 (List.map e40 v826))]) (e0.trans (by kernel_rfl)) rfl) (by kernel_rfl) (all_sc rfl (all_sc (rowF_sc _ _ _) (all_sc rfl rfl))) (by rfl))) ?_
    refine Ops.sg 1 4 ?_
    refine Ops.dn ?_
    refine seqQ.n ?_
    refine Wp.ret (by kernel_rfl) ?_
    exact fnQ.r' (X4 n) (fun z => (.tuple [e27 z.1, e29 z.2])) h (RetOk.tup [(mkAgg [(dI y823.2.1), (rowF .nil 10 (List.map e40 v826)), (.v (.sl .nonfull (List.map e42 ([(⟨(a0.fClasses.length : Int), 0⟩ : S42)]))))]), (.v (.agg [(vI 0), (vI 0)]))] (by kernel_rfl) (.d (mkAgg [(dI y823.2.1), (rowF .nil 10 (List.map e40 v826)), (.v (.sl .nonfull (List.map e42 ([(⟨(a0.fClasses.length : Int), 0⟩ : S42)]))))]) _ (mkAgg_frz (.cons (dI y823.2.1) _ (by kernel_rfl) (by kernel_rfl) (.cons (rowF .nil 10 (List.map e40 v826)) _ (row_frz _ _ 10 5 _ (by kernel_rfl)) (rowF_na _ _ _) (.cons (.v (.sl .nonfull (List.map e42 ([(⟨(a0.fClasses.length : Int), 0⟩ : S42)])))) _ (by kernel_rfl) (by kernel_rfl) .nil)))) (mkAgg_nt _) (.v (.agg [(vI 0), (vI 0)]) _ (by kernel_rfl) (by kernel_rfl) .nil)))
def f5_B1 (m : Nat) (a0 : S27) (a1 : S27) (v30 : Int) : Option (Stp Bool (Int)) :=
 cnd (decide (v30 < (a0.fArcs.length : Int)))
 (bnd (idx a0.fArcs v30) fun v40 =>
 bnd (idx a1.fArcs v30) fun v41 =>
 cnd (!((v40.fFrom == v41.fFrom) && ((v40.fTo == v41.fTo) && ((v40.fIn == v41.fIn) && ((v40.fOut == v41.fOut) && ((v40.fWeight == v41.fWeight) && true))))))
 (some (.ret false))
 (some (.nxt (w64 (v30 + 1)))))
 (some (.brk v30))
def f5_B2 (m : Nat) (a0 : S27) (a1 : S27) (v50 : Int) : Option (Stp Bool (Int)) :=
 cnd (decide (v50 < (a0.fFinals.length : Int)))
 (bnd (idx a0.fFinals v50) fun v60 =>
 bnd (idx a1.fFinals v50) fun v61 =>
 cnd (!((v60.fState == v61.fState) && ((v60.fWeight == v61.fWeight) && true)))
 (some (.ret false))
 (some (.nxt (w64 (v50 + 1)))))
 (some (.brk v50))
def f5_r3 (m : Nat) (a0 : S27) (a1 : S27) (v23 : Bool) : Option Bool :=
 cnd v23
 (some false)
 (brk (iter (fun (y : Int) => f5_B1 m a0 a1 y) m 0) some fun y43 =>
 brk (iter (fun (y : Int) => f5_B2 m a0 a1 y) m 0) some fun y63 =>
 some true)
def f5_r4 (m : Nat) (a0 : S27) (a1 : S27) (v11 : Bool) : Option Bool :=
 f5_r3 m a0 a1 (v11 || ((a0.fFinals.length : Int) != (a1.fFinals.length : Int)))
def f5 (m : Nat) (a0 : S27) (a1 : S27) : Option Bool :=
 f5_r4 m a0 a1 ((a0.fStates != a1.fStates) || ((a0.fArcs.length : Int) != (a1.fArcs.length : Int)))
noncomputable abbrev X5 (n : Nat) : Cx := cxOf Proofs.Tryd.prog EG 5 n
noncomputable def C5 : Code := bodyOf Proofs.Tryd.prog 5
abbrev b5_0 (w0 : S27) : AObj := .cells [(dI w0.fStates), (dP e40 w0.fArcs), (dP e42 w0.fFinals)]
theorem ok5 (m : Nat) (a0 : S27) (a1 : S27) (o : Bool) (h : f5 m a0 a1 = some o) (n : Nat) (hn : m + 1 ≤ n) : Fn Proofs.Tryd.prog EG n 5 [.v (e27 a0), .v (e27 a1)] (eB o) := by
 obtain ⟨n, rfl⟩ : ∃ q, n = q + 1 := ⟨n - 1, by omega⟩
 unfold f5 at h
 refine Fn.of (by kernel_rfl) (by kernel_rfl) (by kernel_rfl) ⟨(.v (.agg [(vI a0.fStates), (vP e40 a0.fArcs), (vP e42 a0.fFinals)])) :: (.v (.agg [(vI a1.fStates), (vP e40 a1.fArcs), (vP e42 a1.fFinals)])) :: u40 (u24 []), []⟩ (by kernel_rfl) ?_
 refine Wp.sq ?_
 refine Wp.rg ?_
 refine Ops.sg 3 3 ?_
 refine Ops.dn ?_
 refine seqQ.n ?_
 refine Wp.sq ?_
 refine Wp.sq ?_
 refine Wp.rg ?_
 refine Ops.sg 6 6 ?_
 refine Ops.hv (fun KQ => ∀ (d3 d4 d5 d6 d7 d8 d9 : D) (v10 : Bool) (v11 : Bool), f5_r4 m a0 a1 v11 = some o → KQ 14 ⟨(.v (.agg [(vI a0.fStates), (vP e40 a0.fArcs), (vP e42 a0.fFinals)])) :: (.v (.agg [(vI a1.fStates), (vP e40 a1.fArcs), (vP e42 a1.fFinals)])) :: (.ptr 0 0) :: (.ptr 1 0) :: (dB false) :: u2 ((.ptr 0 0) :: (dI a0.fStates) :: (.ptr 1 0) :: (dI a1.fStates) :: (dB v10) :: (dB v10) :: d3 :: d4 :: d5 :: d6 :: d7 :: d8 :: d9 :: (dB v11) :: u40 (u5 [])), [(b5_0 a0), (b5_0 a1)]⟩) ?_ fun J5j12 => ?_
 ·intro d3 d4 d5 d6 d7 d8 d9 v10 v11 h
  unfold f5_r4 at h
  refine Ops.sg 1 15 ?_
  refine Ops.hv (fun KQ => ∀ (d15 d16 d17 d18 d19 d20 d21 : D) (v22 : Bool) (v23 : Bool), f5_r3 m a0 a1 v23 = some o → KQ 23 ⟨(.v (.agg [(vI a0.fStates), (vP e40 a0.fArcs), (vP e42 a0.fFinals)])) :: (.v (.agg [(vI a1.fStates), (vP e40 a1.fArcs), (vP e42 a1.fFinals)])) :: (.ptr 0 0) :: (.ptr 1 0) :: (dB false) :: u2 ((.ptr 0 0) :: (dI a0.fStates) :: (.ptr 1 0) :: (dI a1.fStates) :: (dB v10) :: (dB v10) :: d3 :: d4 :: d5 :: d6 :: d7 :: d8 :: d9 :: (dB v22) :: (dB v22) :: d15 :: d16 :: d17 :: d18 :: d19 :: d20 :: d21 :: (dB v23) :: u36 []), [(b5_0 a0), (b5_0 a1)]⟩) ?_ fun J5j24 => ?_
  ·intro d15 d16 d17 d18 d19 d20 d21 v22 v23 h
   unfold f5_r3 at h
   refine Ops.dn ?_
   refine seqQ.n ?_
   refine Wp.cnd h [2, 3, 4] 2 (by kernel_rfl) (fun h => ?_) (fun h => ?_)
   ·refine Wp.sq ?_
    refine Wp.rg ?_
    refine Ops.sg 1 1 ?_
    refine Ops.dn ?_
    refine seqQ.n ?_
    refine Wp.ret (by kernel_rfl) ?_
    refine sqQ.r ?_
    refine seqQ.r ?_
    exact fnQ.r' (X5 n) (fun z => (eB z)) h (RetOk.mk' (dB false) (by kernel_rfl) (by kernel_rfl))
   ·refine Wp.sk ?_
    refine sqQ.n' ?_
    refine seqQ.n ?_
    refine Wp.sq ?_
    refine Wp.sq ?_
    refine Wp.rg ?_
    refine Ops.sg 2 2 ?_
    refine Ops.on 3 (fun h0 e0 => (len_r (T := T) h0 25 41 .plain e40 a0.fArcs (by kernel_rfl))) ?_
    refine Ops.sg 1 4 ?_
    refine Ops.dn ?_
    refine seqQ.n ?_
    refine Wp.block' 0 [2, 3, 4] 2 (by kernel_rfl) ?_
    have hLx42 : ∀ (kx32 : Nat) (v30 : Int)  (ox31 : Bool ⊕ (Int)), iter (fun (y : Int) => f5_B1 m a0 a1 y) kx32 v30 = some ox31 → ∀ nx33, kx32 ≤ nx33 → (∀ r, ox31 = .inl r → ∀ σ, RetOk (X5 n) (resOf Proofs.Tryd.prog 5) (eB r) σ → (seqQ (X5 n) (cR (cR (cR C5))) (fnQ (X5 n).E.T (resOf Proofs.Tryd.prog 5) (eB o))) .ret σ) → (∀ (y : Int) , ox31 = .inr y → (seqQ (X5 n) (cR (cR (cR C5))) (fnQ (X5 n).E.T (resOf Proofs.Tryd.prog 5) (eB o))) .normal ⟨q2 ((.ptr 0 0) :: (.ptr 1 0) :: (dB false) :: q27 ((dI (a0.fArcs.length : Int)) :: (dI y) :: q32 [])), [(b5_0 a0), (b5_0 a1)]⟩) → Lp (X5 n) [2, 3, 4, 32, 33] 2 (cL (cL (cR (cL (cR (cR C5)))))) nx33 ⟨q2 ((.ptr 0 0) :: (.ptr 1 0) :: (dB false) :: q27 ((dI (a0.fArcs.length : Int)) :: (dI v30) :: q32 [])), [(b5_0 a0), (b5_0 a1)]⟩ (blkQ (X5 n) 0 [2, 3, 4] 2 (seqQ (X5 n) (cR (cR (cR C5))) (fnQ (X5 n).E.T (resOf Proofs.Tryd.prog 5) (eB o)))) := by
     intro kx32
     induction kx32 with
     | zero => intro v30  ox31 h; exact (iter_zero h).elim
     | succ kx32 ihx34 =>
      intro v30  ox31 h nx33 hnx37 hrx35 hxx36
      obtain ⟨nx33, rfl⟩ : ∃ q, nx33 = q + 1 := ⟨nx33 - 1, by omega⟩
      obtain ⟨sx38, h, hsx39⟩ := iter_some h
      have h : f5_B1 m a0 a1 v30 = some sx38 := h
      unfold f5_B1 at h
      refine Lp.succ ?_
      refine Wp.sq ?_
      refine Wp.rg ?_
      refine Ops.sg 1 1 ?_
      refine Ops.dn ?_
      refine seqQ.n ?_
      refine Wp.sq ?_
      refine Wp.cnd h [2, 3, 4, 32, 33] 2 (by kernel_rfl) (fun h => ?_) (fun h => ?_)
      ·refine Wp.sk ?_
       refine sqQ.n' ?_
       refine seqQ.n ?_
       refine Wp.sq ?_
       refine Wp.block' 1 [2, 3, 4, 32, 33] 2 (by kernel_rfl) ?_
       refine Wp.sq ?_
       refine Wp.rg ?_
       refine Ops.sg 2 2 ?_
       refine Ops.dn ?_
       refine seqQ.n ?_
       refine Wp.sq ?_
       refine Wp.rg ?_
       refine Ops.sg 3 3 ?_
       obtain ⟨v40, ev40, h⟩ := bnd_some h
       refine Ops.on 4 (fun h0 e0 => (ix_r (T := T) h0 25 41 5 .plain e40 a0.fArcs v30 v40 ev40 (by kernel_rfl) (by kernel_rfl) (fun _ => rfl))) ?_
       refine Ops.sg 4 8 ?_
       obtain ⟨v41, ev41, h⟩ := bnd_some h
       refine Ops.on 9 (fun h0 e0 => (ix_r (T := T) h0 25 41 5 .plain e40 a1.fArcs v30 v41 ev41 (by kernel_rfl) (by kernel_rfl) (fun _ => rfl))) ?_
       refine Ops.sg 2 11 ?_
       refine Ops.dn ?_
       refine seqQ.n ?_
       refine Wp.cnd h [2, 3, 4, 32, 33] 2 (by kernel_rfl) (fun h => ?_) (fun h => ?_)
       ·refine Wp.sq ?_
        refine Wp.rg ?_
        refine Ops.sg 1 1 ?_
        refine Ops.dn ?_
        refine seqQ.n ?_
        refine Wp.ret (by kernel_rfl) ?_
        refine sqQ.r ?_
        refine blkQ.r ?_
        refine seqQ.r ?_
        cases h
        refine lpQ.r ?_
        refine blkQ.r ?_
        exact hrx35 _ hsx39 _ (RetOk.forget [2, 3, 4, 32, 33] (by kernel_rfl) (RetOk.mk' (dB false) (by kernel_rfl) (by kernel_rfl)))
       ·refine Wp.sk ?_
        refine sqQ.n' ?_
        refine blkQ.n' ?_
        refine seqQ.n ?_
        refine Wp.rg ?_
        refine Ops.sg 2 2 ?_
        refine Ops.dn ?_
        refine lpQ.n ⟨q2 ((.ptr 0 0) :: (.ptr 1 0) :: (dB false) :: q27 ((dI (a0.fArcs.length : Int)) :: (dI (w64 (v30 + 1))) :: q32 [])), [(b5_0 a0), (b5_0 a1)]⟩ (by kernel_rfl) ?_
        cases h
        exact ihx34 (w64 (v30 + 1))  _ hsx39 _ (by omega) hrx35 hxx36
      ·refine Wp.exit (id := 0) (by kernel_rfl) ?_
       refine sqQ.x ?_
       refine seqQ.x ?_
       cases h
       refine lpQ.x ?_
       refine blkQ.x ⟨q2 ((.ptr 0 0) :: (.ptr 1 0) :: (dB false) :: q27 ((dI (a0.fArcs.length : Int)) :: (dI v30) :: q32 [])), [(b5_0 a0), (b5_0 a1)]⟩ (by kernel_rfl) ?_
       exact hxx36 v30  hsx39
    refine Wp.loop' [2, 3, 4, 32, 33] 2 (by kernel_rfl) ⟨q2 ((.ptr 0 0) :: (.ptr 1 0) :: (dB false) :: q27 ((dI (a0.fArcs.length : Int)) :: (dI 0) :: q32 [])), [(b5_0 a0), (b5_0 a1)]⟩ (by kernel_rfl) ?_
    rcases brk_some h with ⟨r44, er44, h⟩ | ⟨y43, ey43, h⟩
    ·refine hLx42 _ 0  _ er44 n (by omega) (fun r er σ hσ => ?_) (fun y  ey => by cases ey)
     cases er
     refine seqQ.r ?_
     exact fnQ.r' (X5 n) (fun z => (eB z)) h hσ
    ·refine hLx42 _ 0  _ ey43 n (by omega) (fun r er => by cases er) (fun y  ey => ?_)
     cases ey
     refine seqQ.n ?_
     refine Wp.sq ?_
     refine Wp.sq ?_
     refine Wp.rg ?_
     refine Ops.sg 2 2 ?_
     refine Ops.on 3 (fun h0 e0 => (len_r (T := T) h0 26 43 .plain e42 a0.fFinals (by kernel_rfl))) ?_
     refine Ops.sg 1 4 ?_
     refine Ops.dn ?_
     refine seqQ.n ?_
     refine Wp.block' 2 [4] 2 (by kernel_rfl) ?_
     have hLx62 : ∀ (kx52 : Nat) (v50 : Int)  (ox51 : Bool ⊕ (Int)), iter (fun (y : Int) => f5_B2 m a0 a1 y) kx52 v50 = some ox51 → ∀ nx53, kx52 ≤ nx53 → (∀ r, ox51 = .inl r → ∀ σ, RetOk (X5 n) (resOf Proofs.Tryd.prog 5) (eB r) σ → (seqQ (X5 n) (cR (cR (cR (cR C5)))) (fnQ (X5 n).E.T (resOf Proofs.Tryd.prog 5) (eB o))) .ret σ) → (∀ (y : Int) , ox51 = .inr y → (seqQ (X5 n) (cR (cR (cR (cR C5)))) (fnQ (X5 n).E.T (resOf Proofs.Tryd.prog 5) (eB o))) .normal ⟨q2 ((.ptr 0 0) :: (.ptr 1 0) :: (dB false) :: q40 (q5 ((dI (a0.fFinals.length : Int)) :: (dI y) :: q14 []))), [(b5_0 a0), (b5_0 a1)]⟩) → Lp (X5 n) [2, 3, 4, 50, 51] 2 (cL (cL (cR (cL (cR (cR (cR C5))))))) nx53 ⟨q2 ((.ptr 0 0) :: (.ptr 1 0) :: (dB false) :: q40 (q5 ((dI (a0.fFinals.length : Int)) :: (dI v50) :: q14 []))), [(b5_0 a0), (b5_0 a1)]⟩ (blkQ (X5 n) 2 [4] 2 (seqQ (X5 n) (cR (cR (cR (cR C5)))) (fnQ (X5 n).E.T (resOf Proofs.Tryd.prog 5) (eB o)))) := by
      intro kx52
      induction kx52 with
      | zero => intro v50  ox51 h; exact (iter_zero h).elim
      | succ kx52 ihx54 =>
       intro v50  ox51 h nx53 hnx57 hrx55 hxx56
       obtain ⟨nx53, rfl⟩ : ∃ q, nx53 = q + 1 := ⟨nx53 - 1, by omega⟩
       obtain ⟨sx58, h, hsx59⟩ := iter_some h
       have h : f5_B2 m a0 a1 v50 = some sx58 := h
       unfold f5_B2 at h
       refine Lp.succ ?_
       refine Wp.sq ?_
       refine Wp.rg ?_
       refine Ops.sg 1 1 ?_
       refine Ops.dn ?_
       refine seqQ.n ?_
       refine Wp.sq ?_
       refine Wp.cnd h [2, 3, 4, 50, 51] 2 (by kernel_rfl) (fun h => ?_) (fun h => ?_)
       ·refine Wp.sk ?_
        refine sqQ.n' ?_
        refine seqQ.n ?_
        refine Wp.sq ?_
        refine Wp.block' 3 [2, 3, 4, 50, 51] 2 (by kernel_rfl) ?_
        refine Wp.sq ?_
        refine Wp.rg ?_
        refine Ops.sg 2 2 ?_
        refine Ops.dn ?_
        refine seqQ.n ?_
        refine Wp.sq ?_
        refine Wp.rg ?_
        refine Ops.sg 3 3 ?_
        obtain ⟨v60, ev60, h⟩ := bnd_some h
        refine Ops.on 4 (fun h0 e0 => (ix_r (T := T) h0 26 43 2 .plain e42 a0.fFinals v50 v60 ev60 (by kernel_rfl) (by kernel_rfl) (fun _ => rfl))) ?_
        refine Ops.sg 4 8 ?_
        obtain ⟨v61, ev61, h⟩ := bnd_some h
        refine Ops.on 9 (fun h0 e0 => (ix_r (T := T) h0 26 43 2 .plain e42 a1.fFinals v50 v61 ev61 (by kernel_rfl) (by kernel_rfl) (fun _ => rfl))) ?_
        refine Ops.sg 2 11 ?_
        refine Ops.dn ?_
        refine seqQ.n ?_
        refine Wp.cnd h [2, 3, 4, 50, 51] 2 (by kernel_rfl) (fun h => ?_) (fun h => ?_)
        ·refine Wp.sq ?_
         refine Wp.rg ?_
         refine Ops.sg 1 1 ?_
         refine Ops.dn ?_
         refine seqQ.n ?_
         refine Wp.ret (by kernel_rfl) ?_
         refine sqQ.r ?_
         refine blkQ.r ?_
         refine seqQ.r ?_
         cases h
         refine lpQ.r ?_
         refine blkQ.r ?_
         exact hrx55 _ hsx59 _ (RetOk.forget [2, 3, 4, 50, 51] (by kernel_rfl) (RetOk.mk' (dB false) (by kernel_rfl) (by kernel_rfl)))
        ·refine Wp.sk ?_
         refine sqQ.n' ?_
         refine blkQ.n' ?_
         refine seqQ.n ?_
         refine Wp.rg ?_
         refine Ops.sg 2 2 ?_
         refine Ops.dn ?_
         refine lpQ.n ⟨q2 ((.ptr 0 0) :: (.ptr 1 0) :: (dB false) :: q40 (q5 ((dI (a0.fFinals.length : Int)) :: (dI (w64 (v50 + 1))) :: q14 []))), [(b5_0 a0), (b5_0 a1)]⟩ (by kernel_rfl) ?_
         cases h
         exact ihx54 (w64 (v50 + 1))  _ hsx59 _ (by omega) hrx55 hxx56
       ·refine Wp.exit (id := 2) (by kernel_rfl) ?_
        refine sqQ.x ?_
        refine seqQ.x ?_
        cases h
        refine lpQ.x ?_
        refine blkQ.x ⟨q2 ((.ptr 0 0) :: (.ptr 1 0) :: (dB false) :: q40 (q5 ((dI (a0.fFinals.length : Int)) :: (dI v50) :: q14 []))), [(b5_0 a0), (b5_0 a1)]⟩ (by kernel_rfl) ?_
        exact hxx56 v50  hsx59
     refine Wp.loop' [2, 3, 4, 50, 51] 2 (by kernel_rfl) ⟨q2 ((.ptr 0 0) :: (.ptr 1 0) :: (dB false) :: q40 (q5 ((dI (a0.fFinals.length : Int)) :: (dI 0) :: q14 []))), [(b5_0 a0), (b5_0 a1)]⟩ (by kernel_rfl) ?_
     rcases brk_some h with ⟨r64, er64, h⟩ | ⟨y63, ey63, h⟩
     ·refine hLx62 _ 0  _ er64 n (by omega) (fun r er σ hσ => ?_) (fun y  ey => by cases ey)
      cases er
      refine seqQ.r ?_
      exact fnQ.r' (X5 n) (fun z => (eB z)) h hσ
     ·refine hLx62 _ 0  _ ey63 n (by omega) (fun r er => by cases er) (fun y  ey => ?_)
      cases ey
      refine seqQ.n ?_
      refine Wp.sq ?_
      refine Wp.rg ?_
      refine Ops.sg 1 1 ?_
      refine Ops.dn ?_
      refine seqQ.n ?_
      refine Wp.ret (by kernel_rfl) ?_
      exact fnQ.r' (X5 n) (fun z => (eB z)) h (RetOk.mk' (dB true) (by kernel_rfl) (by kernel_rfl))
  refine Ops.hv (fun KQ => ∀ v13 : Bool, f5_r3 m a0 a1 (v13 || ((a0.fFinals.length : Int) != (a1.fFinals.length : Int))) = some o → KQ 15 ⟨(.v (.agg [(vI a0.fStates), (vP e40 a0.fArcs), (vP e42 a0.fFinals)])) :: (.v (.agg [(vI a1.fStates), (vP e40 a1.fArcs), (vP e42 a1.fFinals)])) :: (.ptr 0 0) :: (.ptr 1 0) :: (dB false) :: u2 ((.ptr 0 0) :: (dI a0.fStates) :: (.ptr 1 0) :: (dI a1.fStates) :: (dB v10) :: (dB v10) :: d3 :: d4 :: d5 :: d6 :: d7 :: d8 :: d9 :: (dB v13) :: (dB v13) :: u40 (u4 [])), [(b5_0 a0), (b5_0 a1)]⟩) ?_ fun G5g14 => Ops.st _ (by kernel_rfl) (G5g14 v11 h)
  intro v13 h
  cases v13
  ·refine Ops.sg 2 17 ?_
   refine Ops.on 18 (fun h0 e0 => (len_r (T := T) h0 26 43 .plain e42 a0.fFinals (by kernel_rfl))) ?_
   refine Ops.sg 2 20 ?_
   refine Ops.on 21 (fun h0 e0 => (len_r (T := T) h0 26 43 .plain e42 a1.fFinals (by kernel_rfl))) ?_
   refine Ops.sg 2 23 ?_
   exact Ops.st _ (by kernel_rfl) (J5j24 (.ptr 0 2) (dP e42 a0.fFinals) (dI (a0.fFinals.length : Int)) (.ptr 1 2) (dP e42 a1.fFinals) (dI (a1.fFinals.length : Int)) (dB ((a0.fFinals.length : Int) != (a1.fFinals.length : Int))) false ((a0.fFinals.length : Int) != (a1.fFinals.length : Int)) h)
  ·refine Ops.sg 8 23 ?_
   exact Ops.st _ (by kernel_rfl) (J5j24 U U U U U U U true true h)
 refine Ops.hv (fun KQ => ∀ v1 : Bool, f5_r4 m a0 a1 (v1 || ((a0.fArcs.length : Int) != (a1.fArcs.length : Int))) = some o → KQ 6 ⟨(.v (.agg [(vI a0.fStates), (vP e40 a0.fArcs), (vP e42 a0.fFinals)])) :: (.v (.agg [(vI a1.fStates), (vP e40 a1.fArcs), (vP e42 a1.fFinals)])) :: (.ptr 0 0) :: (.ptr 1 0) :: (dB false) :: u2 ((.ptr 0 0) :: (dI a0.fStates) :: (.ptr 1 0) :: (dI a1.fStates) :: (dB v1) :: (dB v1) :: u40 (u13 [])), [(b5_0 a0), (b5_0 a1)]⟩) ?_ fun G5g2 => Ops.st _ (by kernel_rfl) (G5g2 (a0.fStates != a1.fStates) h)
 intro v1 h
 cases v1
 ·refine Ops.sg 2 8 ?_
  refine Ops.on 9 (fun h0 e0 => (len_r (T := T) h0 25 41 .plain e40 a0.fArcs (by kernel_rfl))) ?_
  refine Ops.sg 2 11 ?_
  refine Ops.on 12 (fun h0 e0 => (len_r (T := T) h0 25 41 .plain e40 a1.fArcs (by kernel_rfl))) ?_
  refine Ops.sg 2 14 ?_
  exact Ops.st _ (by kernel_rfl) (J5j12 (.ptr 0 1) (dP e40 a0.fArcs) (dI (a0.fArcs.length : Int)) (.ptr 1 1) (dP e40 a1.fArcs) (dI (a1.fArcs.length : Int)) (dB ((a0.fArcs.length : Int) != (a1.fArcs.length : Int))) false ((a0.fArcs.length : Int) != (a1.fArcs.length : Int)) h)
 ·refine Ops.sg 8 14 ?_
  exact Ops.st _ (by kernel_rfl) (J5j12 U U U U U U U true true h)
def f18 (m : Nat) (a0 : Int) (a1 : Int) : Option S29 :=
 some ((⟨a0, a1⟩ : S29))
noncomputable abbrev X18 (n : Nat) : Cx := cxOf Proofs.Tryd.prog EG 18 n
theorem ok18 (m : Nat) (a0 : Int) (a1 : Int) (o : S29) (h : f18 m a0 a1 = some o) (n : Nat) (hn : m + 1 ≤ n) : Fn Proofs.Tryd.prog EG n 18 [.v (eI a0), .v (eI a1)] (e29 o) := by
 obtain ⟨n, rfl⟩ : ∃ q, n = q + 1 := ⟨n - 1, by omega⟩
 unfold f18 at h
 refine Fn.of (by kernel_rfl) (by kernel_rfl) (by kernel_rfl) ⟨(dI a0) :: (dI a1) :: u6 [], []⟩ (by kernel_rfl) ?_
 refine Wp.sq ?_
 refine Wp.rg ?_
 refine Ops.sg 1 1 ?_
 refine Ops.dn ?_
 refine seqQ.n ?_
 refine Wp.sq ?_
 refine Wp.rg ?_
 refine Ops.sg 4 4 ?_
 refine Ops.dn ?_
 refine seqQ.n ?_
 refine Wp.ret (by kernel_rfl) ?_
 exact fnQ.r' (X18 n) (fun z => (e29 z)) h (RetOk.mk' (.v (.agg [(vI a0), (vI a1)])) (by kernel_rfl) (by kernel_rfl))
def f31_r1 (m : Nat) (v96 : Int) (v137 : Bool) : Option (Stp Bool (Int)) :=
 cnd (!v137)
 (some (.ret false))
 (some (.nxt (w64 (v96 + 1))))
def f31_r2 (m : Nat) (v96 : Int) (v106 : Int) (v130 : Bool) : Option (Stp Bool (Int)) :=
 f31_r1 m v96 (v130 || (v106 == 45))
def f31_r3 (m : Nat) (v96 : Int) (v106 : Int) (v123 : Bool) : Option (Stp Bool (Int)) :=
 f31_r2 m v96 v106 (v123 || (v106 == 95))
def f31_r4 (m : Nat) (v96 : Int) (v106 : Int) (v112 : Bool) : Option (Stp Bool (Int)) :=
 f31_r3 m v96 v106 (v112 || ((decide (v106 ≥ 48)) && (decide (v106 ≤ 57))))
def f31_B5 (m : Nat) (a0 : ByteArray) (v96 : Int) : Option (Stp Bool (Int)) :=
 cnd (decide (v96 < (a0.size : Int)))
 (bnd (sidx a0 v96) fun v106 =>
 f31_r4 m v96 v106 ((decide (v106 ≥ 97)) && (decide (v106 ≤ 122))))
 (some (.brk v96))
def f31_r6 (m : Nat) (a0 : ByteArray) (v23 : Bool) : Option Bool :=
 cnd v23
 (some false)
 (brk (iter (fun (y : Int) => f31_B5 m a0 y) m 0) some fun y142 =>
 some true)
def f31_r7 (m : Nat) (a0 : ByteArray) (v15 : Bool) : Option Bool :=
 bnd (cnd v15
 (some true)
 (bnd (sidx a0 0) fun v144 =>
 some (decide (v144 > 122)))) fun v23 =>
 f31_r6 m a0 v23
def f31_r8 (m : Nat) (a0 : ByteArray) (v7 : Bool) : Option Bool :=
 bnd (cnd v7
 (some true)
 (bnd (sidx a0 0) fun v145 =>
 some (decide (v145 < 97)))) fun v15 =>
 f31_r7 m a0 v15
def f31 (m : Nat) (a0 : ByteArray) : Option Bool :=
 f31_r8 m a0 (((a0.size : Int) == 0) || (decide ((a0.size : Int) > 30)))
noncomputable abbrev X31 (n : Nat) : Cx := cxOf Proofs.Tryd.prog EG 31 n
noncomputable def C31 : Code := bodyOf Proofs.Tryd.prog 31
theorem ok31 (m : Nat) (a0 : ByteArray) (o : Bool) (h : f31 m a0 = some o) (n : Nat) (hn : m + 1 ≤ n) : Fn Proofs.Tryd.prog EG n 31 [.v (eS a0)] (eB o) := by
 obtain ⟨n, rfl⟩ : ∃ q, n = q + 1 := ⟨n - 1, by omega⟩
 unfold f31 at h
 refine Fn.of (by kernel_rfl) (by kernel_rfl) (by kernel_rfl) ⟨(.v (.str a0)) :: u40 (u14 []), []⟩ (by kernel_rfl) ?_
 refine Wp.sq ?_
 refine Wp.rg ?_
 refine Ops.sg 1 1 ?_
 refine Ops.dn ?_
 refine seqQ.n ?_
 refine Wp.sq ?_
 refine Wp.sq ?_
 refine Wp.rg ?_
 refine Ops.sg 4 4 ?_
 refine Ops.hv (fun KQ => ∀ (d3 d4 d5 : D) (v6 : Bool) (v7 : Bool), f31_r8 m a0 v7 = some o → KQ 8 ⟨(.v (.str a0)) :: u1 ((dB false) :: u2 ((.v (.str a0)) :: (dI (a0.size : Int)) :: (dB v6) :: (dB v6) :: d3 :: d4 :: d5 :: (dB v7) :: u40 (u2 []))), []⟩) ?_ fun J31j8 => ?_
 ·intro d3 d4 d5 v6 v7 h
  unfold f31_r8 at h
  refine Ops.sg 1 9 ?_
  refine Ops.hv (fun KQ => ∀ (d11 d12 d13 : D) (v14 : Bool) (v15 : Bool), f31_r7 m a0 v15 = some o → KQ 13 ⟨(.v (.str a0)) :: u1 ((dB false) :: u2 ((.v (.str a0)) :: (dI (a0.size : Int)) :: (dB v6) :: (dB v6) :: d3 :: d4 :: d5 :: (dB v14) :: (dB v14) :: d11 :: d12 :: d13 :: (dB v15) :: u37 [])), []⟩) ?_ fun J31j16 => ?_
  ·intro d11 d12 d13 v14 v15 h
   unfold f31_r7 at h
   refine Ops.sg 1 14 ?_
   refine Ops.hv (fun KQ => ∀ (d19 d20 d21 : D) (v22 : Bool) (v23 : Bool), f31_r6 m a0 v23 = some o → KQ 18 ⟨(.v (.str a0)) :: u1 ((dB false) :: u2 ((.v (.str a0)) :: (dI (a0.size : Int)) :: (dB v6) :: (dB v6) :: d3 :: d4 :: d5 :: (dB v14) :: (dB v14) :: d11 :: d12 :: d13 :: (dB v22) :: (dB v22) :: d19 :: d20 :: d21 :: (dB v23) :: u32 [])), []⟩) ?_ fun J31j24 => ?_
   ·intro d19 d20 d21 v22 v23 h
    unfold f31_r6 at h
    refine Ops.dn ?_
    refine seqQ.n ?_
    refine Wp.cnd h [0, 2] 0 (by kernel_rfl) (fun h => ?_) (fun h => ?_)
    ·refine Wp.sq ?_
     refine Wp.rg ?_
     refine Ops.sg 1 1 ?_
     refine Ops.dn ?_
     refine seqQ.n ?_
     refine Wp.ret (by kernel_rfl) ?_
     refine sqQ.r ?_
     refine seqQ.r ?_
     exact fnQ.r' (X31 n) (fun z => (eB z)) h (RetOk.mk' (dB false) (by kernel_rfl) (by kernel_rfl))
    ·refine Wp.sk ?_
     refine sqQ.n' ?_
     refine seqQ.n ?_
     refine Wp.sq ?_
     refine Wp.sq ?_
     refine Wp.rg ?_
     refine Ops.sg 1 1 ?_
     refine Ops.dn ?_
     refine seqQ.n ?_
     refine Wp.block' 0 [2] 0 (by kernel_rfl) ?_
     have hLx141 : ∀ (kx98 : Nat) (v96 : Int)  (ox97 : Bool ⊕ (Int)), iter (fun (y : Int) => f31_B5 m a0 y) kx98 v96 = some ox97 → ∀ nx99, kx98 ≤ nx99 → (∀ r, ox97 = .inl r → ∀ σ, RetOk (X31 n) (resOf Proofs.Tryd.prog 31) (eB r) σ → (seqQ (X31 n) (cR (cR (cR C31))) (fnQ (X31 n).E.T (resOf Proofs.Tryd.prog 31) (eB o))) .ret σ) → (∀ (y : Int) , ox97 = .inr y → (seqQ (X31 n) (cR (cR (cR C31))) (fnQ (X31 n).E.T (resOf Proofs.Tryd.prog 31) (eB o))) .normal ⟨(.v (.str a0)) :: q1 ((dB false) :: (dI y) :: q40 (q11 [])), []⟩) → Lp (X31 n) [0, 2, 3] 0 (cL (cL (cR (cL (cR (cR C31)))))) nx99 ⟨(.v (.str a0)) :: q1 ((dB false) :: (dI v96) :: q40 (q11 [])), []⟩ (blkQ (X31 n) 0 [2] 0 (seqQ (X31 n) (cR (cR (cR C31))) (fnQ (X31 n).E.T (resOf Proofs.Tryd.prog 31) (eB o)))) := by
      intro kx98
      induction kx98 with
      | zero => intro v96  ox97 h; exact (iter_zero h).elim
      | succ kx98 ihx100 =>
       intro v96  ox97 h nx99 hnx103 hrx101 hxx102
       obtain ⟨nx99, rfl⟩ : ∃ q, nx99 = q + 1 := ⟨nx99 - 1, by omega⟩
       obtain ⟨sx104, h, hsx105⟩ := iter_some h
       have h : f31_B5 m a0 v96 = some sx104 := h
       unfold f31_B5 at h
       refine Lp.succ ?_
       refine Wp.sq ?_
       refine Wp.sq ?_
       refine Wp.rg ?_
       refine Ops.sg 4 4 ?_
       refine Ops.dn ?_
       refine seqQ.n ?_
       refine Wp.cnd h [0, 2, 3] 0 (by kernel_rfl) (fun h => ?_) (fun h => ?_)
       ·refine Wp.sk ?_
        refine sqQ.n' ?_
        refine seqQ.n ?_
        refine Wp.sq ?_
        refine Wp.block' 1 [0, 2, 3] 0 (by kernel_rfl) ?_
        refine Wp.sq ?_
        refine Wp.rg ?_
        refine Ops.sg 2 2 ?_
        obtain ⟨v106, ev106, h⟩ := bnd_some h
        refine Ops.on 3 (fun h0 e0 => (str_ix (T := T) h0 9 a0 v96 v106 ev106 (by kernel_rfl))) ?_
        refine Ops.sg 1 4 ?_
        refine Ops.dn ?_
        refine seqQ.n ?_
        refine Wp.sq ?_
        refine Wp.rg ?_
        refine Ops.sg 3 3 ?_
        refine Ops.hv (fun KQ => ∀ (d109 d110 : D) (v111 : Bool) (v112 : Bool), f31_r4 m v96 v106 v112 = some sx104 → KQ 6 ⟨(.v (.str a0)) :: q1 ((dB false) :: (dI v96) :: (.v (.int .u8 v106)) :: q18 ((dI v96) :: (.v (.str a0)) :: (dI (a0.size : Int)) :: (dB (decide (v96 < (a0.size : Int)))) :: q2 ((.v (.str a0)) :: (dI v96) :: (.v (.int .u8 v106)) :: (.v (.int .u8 v106)) :: (dB v111) :: (dB v111) :: d109 :: d110 :: (dB v112) :: q17 []))), []⟩) ?_ fun J31j113 => ?_
        ·intro d109 d110 v111 v112 h
         unfold f31_r4 at h
         refine Ops.sg 1 7 ?_
         refine Ops.hv (fun KQ => ∀ (d116 d117 d118 d119 d120 d121 : D) (v122 : Bool) (v123 : Bool), f31_r3 m v96 v106 v123 = some sx104 → KQ 14 ⟨(.v (.str a0)) :: q1 ((dB false) :: (dI v96) :: (.v (.int .u8 v106)) :: q18 ((dI v96) :: (.v (.str a0)) :: (dI (a0.size : Int)) :: (dB (decide (v96 < (a0.size : Int)))) :: q2 ((.v (.str a0)) :: (dI v96) :: (.v (.int .u8 v106)) :: (.v (.int .u8 v106)) :: (dB v111) :: (dB v111) :: d109 :: d110 :: (dB v122) :: (dB v122) :: d116 :: d117 :: d118 :: d119 :: d120 :: d121 :: (dB v123) :: q9 []))), []⟩) ?_ fun J31j124 => ?_
         ·intro d116 d117 d118 d119 d120 d121 v122 v123 h
          unfold f31_r3 at h
          refine Ops.sg 1 15 ?_
          refine Ops.hv (fun KQ => ∀ (d127 d128 : D) (v129 : Bool) (v130 : Bool), f31_r2 m v96 v106 v130 = some sx104 → KQ 18 ⟨(.v (.str a0)) :: q1 ((dB false) :: (dI v96) :: (.v (.int .u8 v106)) :: q18 ((dI v96) :: (.v (.str a0)) :: (dI (a0.size : Int)) :: (dB (decide (v96 < (a0.size : Int)))) :: q2 ((.v (.str a0)) :: (dI v96) :: (.v (.int .u8 v106)) :: (.v (.int .u8 v106)) :: (dB v111) :: (dB v111) :: d109 :: d110 :: (dB v122) :: (dB v122) :: d116 :: d117 :: d118 :: d119 :: d120 :: d121 :: (dB v129) :: (dB v129) :: d127 :: d128 :: (dB v130) :: q5 []))), []⟩) ?_ fun J31j131 => ?_
          ·intro d127 d128 v129 v130 h
           unfold f31_r2 at h
           refine Ops.sg 1 19 ?_
           refine Ops.hv (fun KQ => ∀ (d134 d135 : D) (v136 : Bool) (v137 : Bool), f31_r1 m v96 v137 = some sx104 → KQ 22 ⟨(.v (.str a0)) :: q1 ((dB false) :: (dI v96) :: (.v (.int .u8 v106)) :: q18 ((dI v96) :: (.v (.str a0)) :: (dI (a0.size : Int)) :: (dB (decide (v96 < (a0.size : Int)))) :: q2 ((.v (.str a0)) :: (dI v96) :: (.v (.int .u8 v106)) :: (.v (.int .u8 v106)) :: (dB v111) :: (dB v111) :: d109 :: d110 :: (dB v122) :: (dB v122) :: d116 :: d117 :: d118 :: d119 :: d120 :: d121 :: (dB v129) :: (dB v129) :: d127 :: d128 :: (dB v136) :: (dB v136) :: d134 :: d135 :: (dB v137) :: q1 []))), []⟩) ?_ fun J31j138 => ?_
           ·intro d134 d135 v136 v137 h
            unfold f31_r1 at h
            refine Ops.sg 1 23 ?_
            refine Ops.dn ?_
            refine seqQ.n ?_
            refine Wp.cnd h [0, 2, 3] 0 (by kernel_rfl) (fun h => ?_) (fun h => ?_)
            ·refine Wp.sq ?_
             refine Wp.rg ?_
             refine Ops.sg 1 1 ?_
             refine Ops.dn ?_
             refine seqQ.n ?_
             refine Wp.ret (by kernel_rfl) ?_
             refine sqQ.r ?_
             refine blkQ.r ?_
             refine seqQ.r ?_
             cases h
             refine lpQ.r ?_
             refine blkQ.r ?_
             exact hrx101 _ hsx105 _ (RetOk.forget [0, 2, 3] (by kernel_rfl) (RetOk.mk' (dB false) (by kernel_rfl) (by kernel_rfl)))
            ·refine Wp.sk ?_
             refine sqQ.n' ?_
             refine blkQ.n' ?_
             refine seqQ.n ?_
             refine Wp.rg ?_
             refine Ops.sg 3 3 ?_
             refine Ops.dn ?_
             refine lpQ.n ⟨(.v (.str a0)) :: q1 ((dB false) :: (dI (w64 (v96 + 1))) :: q40 (q11 [])), []⟩ (by kernel_rfl) ?_
             cases h
             exact ihx100 (w64 (v96 + 1))  _ hsx105 _ (by omega) hrx101 hxx102
           refine Ops.hv (fun KQ => ∀ v132 : Bool, f31_r1 m v96 (v132 || (v106 == 45)) = some sx104 → KQ 19 ⟨(.v (.str a0)) :: q1 ((dB false) :: (dI v96) :: (.v (.int .u8 v106)) :: q18 ((dI v96) :: (.v (.str a0)) :: (dI (a0.size : Int)) :: (dB (decide (v96 < (a0.size : Int)))) :: q2 ((.v (.str a0)) :: (dI v96) :: (.v (.int .u8 v106)) :: (.v (.int .u8 v106)) :: (dB v111) :: (dB v111) :: d109 :: d110 :: (dB v122) :: (dB v122) :: d116 :: d117 :: d118 :: d119 :: d120 :: d121 :: (dB v129) :: (dB v129) :: d127 :: d128 :: (dB v132) :: (dB v132) :: q4 []))), []⟩) ?_ fun G31g133 => Ops.st _ (by kernel_rfl) (G31g133 v130 h)
           intro v132 h
           cases v132
           ·refine Ops.sg 3 22 ?_
            exact Ops.st _ (by kernel_rfl) (J31j138 (.v (.int .u8 v106)) (dB (v106 == 45)) false (v106 == 45) h)
           ·refine Ops.sg 3 22 ?_
            exact Ops.st _ (by kernel_rfl) (J31j138 U U true true h)
          refine Ops.hv (fun KQ => ∀ v125 : Bool, f31_r2 m v96 v106 (v125 || (v106 == 95)) = some sx104 → KQ 15 ⟨(.v (.str a0)) :: q1 ((dB false) :: (dI v96) :: (.v (.int .u8 v106)) :: q18 ((dI v96) :: (.v (.str a0)) :: (dI (a0.size : Int)) :: (dB (decide (v96 < (a0.size : Int)))) :: q2 ((.v (.str a0)) :: (dI v96) :: (.v (.int .u8 v106)) :: (.v (.int .u8 v106)) :: (dB v111) :: (dB v111) :: d109 :: d110 :: (dB v122) :: (dB v122) :: d116 :: d117 :: d118 :: d119 :: d120 :: d121 :: (dB v125) :: (dB v125) :: q8 []))), []⟩) ?_ fun G31g126 => Ops.st _ (by kernel_rfl) (G31g126 v123 h)
          intro v125 h
          cases v125
          ·refine Ops.sg 3 18 ?_
           exact Ops.st _ (by kernel_rfl) (J31j131 (.v (.int .u8 v106)) (dB (v106 == 95)) false (v106 == 95) h)
          ·refine Ops.sg 3 18 ?_
           exact Ops.st _ (by kernel_rfl) (J31j131 U U true true h)
         refine Ops.hv (fun KQ => ∀ v114 : Bool, f31_r3 m v96 v106 (v114 || ((decide (v106 ≥ 48)) && (decide (v106 ≤ 57)))) = some sx104 → KQ 7 ⟨(.v (.str a0)) :: q1 ((dB false) :: (dI v96) :: (.v (.int .u8 v106)) :: q18 ((dI v96) :: (.v (.str a0)) :: (dI (a0.size : Int)) :: (dB (decide (v96 < (a0.size : Int)))) :: q2 ((.v (.str a0)) :: (dI v96) :: (.v (.int .u8 v106)) :: (.v (.int .u8 v106)) :: (dB v111) :: (dB v111) :: d109 :: d110 :: (dB v114) :: (dB v114) :: q16 []))), []⟩) ?_ fun G31g115 => Ops.st _ (by kernel_rfl) (G31g115 v112 h)
         intro v114 h
         cases v114
         ·refine Ops.sg 3 10 ?_
          refine Ops.hv (fun KQ => ∀ v139 : Bool, (f31_r3 m v96 v106 (false || (v139 && (decide (v106 ≤ 57))))) = some sx104 → KQ 10 ⟨(.v (.str a0)) :: q1 ((dB false) :: (dI v96) :: (.v (.int .u8 v106)) :: q18 ((dI v96) :: (.v (.str a0)) :: (dI (a0.size : Int)) :: (dB (decide (v96 < (a0.size : Int)))) :: q2 ((.v (.str a0)) :: (dI v96) :: (.v (.int .u8 v106)) :: (.v (.int .u8 v106)) :: (dB v111) :: (dB v111) :: d109 :: d110 :: (dB false) :: (dB false) :: (.v (.int .u8 v106)) :: (dB v139) :: (dB v139) :: q13 []))), []⟩) ?_ fun G31g140 => Ops.st _ (by kernel_rfl) (G31g140 (decide (v106 ≥ 48)) h)
          intro v139 h
          cases v139
          ·refine Ops.sg 4 14 ?_
           exact Ops.st _ (by kernel_rfl) (J31j124 (.v (.int .u8 v106)) (dB false) (dB false) U U (dB false) false false h)
          ·refine Ops.sg 4 14 ?_
           exact Ops.st _ (by kernel_rfl) (J31j124 (.v (.int .u8 v106)) (dB true) (dB true) (.v (.int .u8 v106)) (dB (decide (v106 ≤ 57))) (dB (decide (v106 ≤ 57))) false (decide (v106 ≤ 57)) h)
         ·refine Ops.sg 7 14 ?_
          exact Ops.st _ (by kernel_rfl) (J31j124 U U U U U U true true h)
        refine Ops.hv (fun KQ => ∀ v107 : Bool, f31_r4 m v96 v106 (v107 && (decide (v106 ≤ 122))) = some sx104 → KQ 3 ⟨(.v (.str a0)) :: q1 ((dB false) :: (dI v96) :: (.v (.int .u8 v106)) :: q18 ((dI v96) :: (.v (.str a0)) :: (dI (a0.size : Int)) :: (dB (decide (v96 < (a0.size : Int)))) :: q2 ((.v (.str a0)) :: (dI v96) :: (.v (.int .u8 v106)) :: (.v (.int .u8 v106)) :: (dB v107) :: (dB v107) :: q20 []))), []⟩) ?_ fun G31g108 => Ops.st _ (by kernel_rfl) (G31g108 (decide (v106 ≥ 97)) h)
        intro v107 h
        cases v107
        ·refine Ops.sg 3 6 ?_
         exact Ops.st _ (by kernel_rfl) (J31j113 U U false false h)
        ·refine Ops.sg 3 6 ?_
         exact Ops.st _ (by kernel_rfl) (J31j113 (.v (.int .u8 v106)) (dB (decide (v106 ≤ 122))) true (decide (v106 ≤ 122)) h)
       ·refine Wp.exit (id := 0) (by kernel_rfl) ?_
        refine sqQ.x ?_
        refine seqQ.x ?_
        cases h
        refine lpQ.x ?_
        refine blkQ.x ⟨(.v (.str a0)) :: q1 ((dB false) :: (dI v96) :: q40 (q11 [])), []⟩ (by kernel_rfl) ?_
        exact hxx102 v96  hsx105
     refine Wp.loop' [0, 2, 3] 0 (by kernel_rfl) ⟨(.v (.str a0)) :: q1 ((dB false) :: (dI 0) :: q40 (q11 [])), []⟩ (by kernel_rfl) ?_
     rcases brk_some h with ⟨r143, er143, h⟩ | ⟨y142, ey142, h⟩
     ·refine hLx141 _ 0  _ er143 n (by omega) (fun r er σ hσ => ?_) (fun y  ey => by cases ey)
      cases er
      refine seqQ.r ?_
      exact fnQ.r' (X31 n) (fun z => (eB z)) h hσ
     ·refine hLx141 _ 0  _ ey142 n (by omega) (fun r er => by cases er) (fun y  ey => ?_)
      cases ey
      refine seqQ.n ?_
      refine Wp.sq ?_
      refine Wp.rg ?_
      refine Ops.sg 1 1 ?_
      refine Ops.dn ?_
      refine seqQ.n ?_
      refine Wp.ret (by kernel_rfl) ?_
      exact fnQ.r' (X31 n) (fun z => (eB z)) h (RetOk.mk' (dB true) (by kernel_rfl) (by kernel_rfl))
   obtain ⟨v23, ev23, h⟩ := bnd_some h
   refine Ops.hv (fun KQ => ∀ v17 : Bool, (cnd v17 (some true) (bnd (sidx a0 0) fun v144 => some (decide (v144 > 122)))) = some v23 → KQ 14 ⟨(.v (.str a0)) :: u1 ((dB false) :: u2 ((.v (.str a0)) :: (dI (a0.size : Int)) :: (dB v6) :: (dB v6) :: d3 :: d4 :: d5 :: (dB v14) :: (dB v14) :: d11 :: d12 :: d13 :: (dB v17) :: (dB v17) :: u36 [])), []⟩) ?_ fun G31g18 => Ops.st _ (by kernel_rfl) (G31g18 v15 ev23)
   intro v17 ev23
   cases v17
   ·have ev23 := cnd_f ev23
    refine Ops.sg 1 15 ?_
    obtain ⟨v144, ev144, ev23⟩ := bnd_some ev23
    refine Ops.on 16 (fun h0 e0 => (str_ix (T := T) h0 9 a0 0 v144 ev144 (by kernel_rfl))) ?_
    refine Ops.sg 2 18 ?_
    exact Ops.st _ (by kernel_rfl) (J31j24 (.v (.str a0)) (.v (.int .u8 v144)) (dB (decide (v144 > 122))) false (decide (v144 > 122)) (some_sub (fun v23 => f31_r6 m a0 v23 = some o) ev23 h))
   ·have ev23 := cnd_t ev23
    refine Ops.sg 4 18 ?_
    exact Ops.st _ (by kernel_rfl) (J31j24 U U U true true (some_sub (fun v23 => f31_r6 m a0 v23 = some o) ev23 h))
  obtain ⟨v15, ev15, h⟩ := bnd_some h
  refine Ops.hv (fun KQ => ∀ v9 : Bool, (cnd v9 (some true) (bnd (sidx a0 0) fun v145 => some (decide (v145 < 97)))) = some v15 → KQ 9 ⟨(.v (.str a0)) :: u1 ((dB false) :: u2 ((.v (.str a0)) :: (dI (a0.size : Int)) :: (dB v6) :: (dB v6) :: d3 :: d4 :: d5 :: (dB v9) :: (dB v9) :: u40 (u1 []))), []⟩) ?_ fun G31g10 => Ops.st _ (by kernel_rfl) (G31g10 v7 ev15)
  intro v9 ev15
  cases v9
  ·have ev15 := cnd_f ev15
   refine Ops.sg 1 10 ?_
   obtain ⟨v145, ev145, ev15⟩ := bnd_some ev15
   refine Ops.on 11 (fun h0 e0 => (str_ix (T := T) h0 9 a0 0 v145 ev145 (by kernel_rfl))) ?_
   refine Ops.sg 2 13 ?_
   exact Ops.st _ (by kernel_rfl) (J31j16 (.v (.str a0)) (.v (.int .u8 v145)) (dB (decide (v145 < 97))) false (decide (v145 < 97)) (some_sub (fun v15 => f31_r7 m a0 v15 = some o) ev15 h))
  ·have ev15 := cnd_t ev15
   refine Ops.sg 4 13 ?_
   exact Ops.st _ (by kernel_rfl) (J31j16 U U U true true (some_sub (fun v15 => f31_r7 m a0 v15 = some o) ev15 h))
 refine Ops.hv (fun KQ => ∀ v1 : Bool, f31_r8 m a0 (v1 || (decide ((a0.size : Int) > 30))) = some o → KQ 4 ⟨(.v (.str a0)) :: u1 ((dB false) :: u2 ((.v (.str a0)) :: (dI (a0.size : Int)) :: (dB v1) :: (dB v1) :: u40 (u6 []))), []⟩) ?_ fun G31g2 => Ops.st _ (by kernel_rfl) (G31g2 ((a0.size : Int) == 0) h)
 intro v1 h
 cases v1
 ·refine Ops.sg 4 8 ?_
  exact Ops.st _ (by kernel_rfl) (J31j8 (.v (.str a0)) (dI (a0.size : Int)) (dB (decide ((a0.size : Int) > 30))) false (decide ((a0.size : Int) > 30)) h)
 ·refine Ops.sg 4 8 ?_
  exact Ops.st _ (by kernel_rfl) (J31j8 U U U true true h)
def f34 (m : Nat) (a0 : Int) (a1 : Int) : Option S29 :=
 some ((⟨a0, a1⟩ : S29))
noncomputable abbrev X34 (n : Nat) : Cx := cxOf Proofs.Tryd.prog EG 34 n
theorem ok34 (m : Nat) (a0 : Int) (a1 : Int) (o : S29) (h : f34 m a0 a1 = some o) (n : Nat) (hn : m + 1 ≤ n) : Fn Proofs.Tryd.prog EG n 34 [.v (eI a0), .v (eI a1)] (e29 o) := by
 obtain ⟨n, rfl⟩ : ∃ q, n = q + 1 := ⟨n - 1, by omega⟩
 unfold f34 at h
 refine Fn.of (by kernel_rfl) (by kernel_rfl) (by kernel_rfl) ⟨(dI a0) :: (dI a1) :: u6 [], []⟩ (by kernel_rfl) ?_
 refine Wp.sq ?_
 refine Wp.rg ?_
 refine Ops.sg 1 1 ?_
 refine Ops.dn ?_
 refine seqQ.n ?_
 refine Wp.sq ?_
 refine Wp.rg ?_
 refine Ops.sg 4 4 ?_
 refine Ops.dn ?_
 refine seqQ.n ?_
 refine Wp.ret (by kernel_rfl) ?_
 exact fnQ.r' (X34 n) (fun z => (e29 z)) h (RetOk.mk' (.v (.agg [(vI a0), (vI a1)])) (by kernel_rfl) (by kernel_rfl))
def f55_r1 (m : Nat) (v17 : Bool) : Option Bool :=
 some v17
def f55_r2 (m : Nat) (a0 : Int) (v6 : Bool) : Option Bool :=
 f55_r1 m (v6 || ((decide (a0 > 57343)) && (decide (a0 ≤ 1114111))))
def f55 (m : Nat) (a0 : Int) : Option Bool :=
 f55_r2 m a0 ((decide (a0 ≥ 0)) && (decide (a0 < 55296)))
noncomputable abbrev X55 (n : Nat) : Cx := cxOf Proofs.Tryd.prog EG 55 n
theorem ok55 (m : Nat) (a0 : Int) (o : Bool) (h : f55 m a0 = some o) (n : Nat) (hn : m + 1 ≤ n) : Fn Proofs.Tryd.prog EG n 55 [.v (eI a0)] (eB o) := by
 obtain ⟨n, rfl⟩ : ∃ q, n = q + 1 := ⟨n - 1, by omega⟩
 unfold f55 at h
 refine Fn.of (by kernel_rfl) (by kernel_rfl) (by kernel_rfl) ⟨(dI a0) :: u16 [], []⟩ (by kernel_rfl) ?_
 refine Wp.sq ?_
 refine Wp.rg ?_
 refine Ops.sg 1 1 ?_
 refine Ops.dn ?_
 refine seqQ.n ?_
 refine Wp.sq ?_
 refine Wp.rg ?_
 refine Ops.sg 3 3 ?_
 refine Ops.hv (fun KQ => ∀ (d3 d4 : D) (v5 : Bool) (v6 : Bool), f55_r2 m a0 v6 = some o → KQ 6 ⟨(dI a0) :: u1 ((dB false) :: (dI a0) :: (dB v5) :: (dB v5) :: d3 :: d4 :: (dB v6) :: u8 []), []⟩) ?_ fun J55j7 => ?_
 ·intro d3 d4 v5 v6 h
  unfold f55_r2 at h
  refine Ops.sg 1 7 ?_
  refine Ops.hv (fun KQ => ∀ (d10 d11 d12 d13 d14 d15 : D) (v16 : Bool) (v17 : Bool), f55_r1 m v17 = some o → KQ 14 ⟨(dI a0) :: u1 ((dB false) :: (dI a0) :: (dB v5) :: (dB v5) :: d3 :: d4 :: (dB v16) :: (dB v16) :: d10 :: d11 :: d12 :: d13 :: d14 :: d15 :: (dB v17) :: []), []⟩) ?_ fun J55j18 => ?_
  ·intro d10 d11 d12 d13 d14 d15 v16 v17 h
   unfold f55_r1 at h
   refine Ops.sg 1 15 ?_
   refine Ops.dn ?_
   refine seqQ.n ?_
   refine Wp.ret (by kernel_rfl) ?_
   exact fnQ.r' (X55 n) (fun z => (eB z)) h (RetOk.mk' (dB v17) (by kernel_rfl) (by kernel_rfl))
  refine Ops.hv (fun KQ => ∀ v8 : Bool, f55_r1 m (v8 || ((decide (a0 > 57343)) && (decide (a0 ≤ 1114111)))) = some o → KQ 7 ⟨(dI a0) :: u1 ((dB false) :: (dI a0) :: (dB v5) :: (dB v5) :: d3 :: d4 :: (dB v8) :: (dB v8) :: u7 []), []⟩) ?_ fun G55g9 => Ops.st _ (by kernel_rfl) (G55g9 v6 h)
  intro v8 h
  cases v8
  ·refine Ops.sg 3 10 ?_
   refine Ops.hv (fun KQ => ∀ v19 : Bool, (f55_r1 m (false || (v19 && (decide (a0 ≤ 1114111))))) = some o → KQ 10 ⟨(dI a0) :: u1 ((dB false) :: (dI a0) :: (dB v5) :: (dB v5) :: d3 :: d4 :: (dB false) :: (dB false) :: (dI a0) :: (dB v19) :: (dB v19) :: u4 []), []⟩) ?_ fun G55g20 => Ops.st _ (by kernel_rfl) (G55g20 (decide (a0 > 57343)) h)
   intro v19 h
   cases v19
   ·refine Ops.sg 4 14 ?_
    exact Ops.st _ (by kernel_rfl) (J55j18 (dI a0) (dB false) (dB false) U U (dB false) false false h)
   ·refine Ops.sg 4 14 ?_
    exact Ops.st _ (by kernel_rfl) (J55j18 (dI a0) (dB true) (dB true) (dI a0) (dB (decide (a0 ≤ 1114111))) (dB (decide (a0 ≤ 1114111))) false (decide (a0 ≤ 1114111)) h)
  ·refine Ops.sg 7 14 ?_
   exact Ops.st _ (by kernel_rfl) (J55j18 U U U U U U true true h)
 refine Ops.hv (fun KQ => ∀ v1 : Bool, f55_r2 m a0 (v1 && (decide (a0 < 55296))) = some o → KQ 3 ⟨(dI a0) :: u1 ((dB false) :: (dI a0) :: (dB v1) :: (dB v1) :: u11 []), []⟩) ?_ fun G55g2 => Ops.st _ (by kernel_rfl) (G55g2 (decide (a0 ≥ 0)) h)
 intro v1 h
 cases v1
 ·refine Ops.sg 3 6 ?_
  exact Ops.st _ (by kernel_rfl) (J55j7 U U false false h)
 ·refine Ops.sg 3 6 ?_
  exact Ops.st _ (by kernel_rfl) (J55j7 (dI a0) (dB (decide (a0 < 55296))) true (decide (a0 < 55296)) h)
def f36 (m : Nat) (a0 : Int) : Option Int :=
 cnd (decide (a0 < 128))
 (some 1)
 (cnd (decide (a0 < 2048))
 (some 2)
 (cnd (decide (a0 < 65536))
 (some 3)
 (some 4)))
noncomputable abbrev X36 (n : Nat) : Cx := cxOf Proofs.Tryd.prog EG 36 n
theorem ok36 (m : Nat) (a0 : Int) (o : Int) (h : f36 m a0 = some o) (n : Nat) (hn : m + 1 ≤ n) : Fn Proofs.Tryd.prog EG n 36 [.v (eI a0)] (eI o) := by
 obtain ⟨n, rfl⟩ : ∃ q, n = q + 1 := ⟨n - 1, by omega⟩
 unfold f36 at h
 refine Fn.of (by kernel_rfl) (by kernel_rfl) (by kernel_rfl) ⟨(dI a0) :: u8 [], []⟩ (by kernel_rfl) ?_
 refine Wp.sq ?_
 refine Wp.rg ?_
 refine Ops.sg 1 1 ?_
 refine Ops.dn ?_
 refine seqQ.n ?_
 refine Wp.sq ?_
 refine Wp.sq ?_
 refine Wp.rg ?_
 refine Ops.sg 2 2 ?_
 refine Ops.dn ?_
 refine seqQ.n ?_
 refine Wp.cnd h [0, 2] 0 (by kernel_rfl) (fun h => ?_) (fun h => ?_)
 ·refine Wp.sq ?_
  refine Wp.rg ?_
  refine Ops.sg 1 1 ?_
  refine Ops.dn ?_
  refine seqQ.n ?_
  refine Wp.ret (by kernel_rfl) ?_
  refine sqQ.r ?_
  refine seqQ.r ?_
  exact fnQ.r' (X36 n) (fun z => (eI z)) h (RetOk.mk' (dI 1) (by kernel_rfl) (by kernel_rfl))
 ·refine Wp.sk ?_
  refine sqQ.n' ?_
  refine seqQ.n ?_
  refine Wp.sq ?_
  refine Wp.sq ?_
  refine Wp.rg ?_
  refine Ops.sg 2 2 ?_
  refine Ops.dn ?_
  refine seqQ.n ?_
  refine Wp.cnd h [0, 2] 0 (by kernel_rfl) (fun h => ?_) (fun h => ?_)
  ·refine Wp.sq ?_
   refine Wp.rg ?_
   refine Ops.sg 1 1 ?_
   refine Ops.dn ?_
   refine seqQ.n ?_
   refine Wp.ret (by kernel_rfl) ?_
   refine sqQ.r ?_
   refine seqQ.r ?_
   exact fnQ.r' (X36 n) (fun z => (eI z)) h (RetOk.mk' (dI 2) (by kernel_rfl) (by kernel_rfl))
  ·refine Wp.sk ?_
   refine sqQ.n' ?_
   refine seqQ.n ?_
   refine Wp.sq ?_
   refine Wp.sq ?_
   refine Wp.rg ?_
   refine Ops.sg 2 2 ?_
   refine Ops.dn ?_
   refine seqQ.n ?_
   refine Wp.cnd h [2] 0 (by kernel_rfl) (fun h => ?_) (fun h => ?_)
   ·refine Wp.sq ?_
    refine Wp.rg ?_
    refine Ops.sg 1 1 ?_
    refine Ops.dn ?_
    refine seqQ.n ?_
    refine Wp.ret (by kernel_rfl) ?_
    refine sqQ.r ?_
    refine seqQ.r ?_
    exact fnQ.r' (X36 n) (fun z => (eI z)) h (RetOk.mk' (dI 3) (by kernel_rfl) (by kernel_rfl))
   ·refine Wp.sk ?_
    refine sqQ.n' ?_
    refine seqQ.n ?_
    refine Wp.sq ?_
    refine Wp.rg ?_
    refine Ops.sg 1 1 ?_
    refine Ops.dn ?_
    refine seqQ.n ?_
    refine Wp.ret (by kernel_rfl) ?_
    exact fnQ.r' (X36 n) (fun z => (eI z)) h (RetOk.mk' (dI 4) (by kernel_rfl) (by kernel_rfl))
def f35_r1 (m : Nat) (v35 : Int) (v36 : Int) (v46 : Int) (v52 : Bool) : Option (Stp Int (Int × Int)) :=
 cnd v52
 (some (.ret (-1)))
 (some (.nxt (w64 (w64 (w64 (v35 * 64) + w64 v46) - 128), w64 (v36 + 1))))
def f35_B2 (m : Nat) (a0 : ByteArray) (a1 : Int) (v2 : Int) (v35 : Int) (v36 : Int) : Option (Stp Int (Int × Int)) :=
 cnd (decide (v36 < v2))
 (bnd (sidx a0 (w64 (a1 + v36))) fun v46 =>
 f35_r1 m v35 v36 v46 ((decide (w64 v46 < 128)) || (decide (w64 v46 > 191))))
 (some (.brk (v35, v36)))
def f35_r3 (m : Nat) (y55 : Int × Int) (v65 : Bool) : Option Int :=
 cnd v65
 (some (-1))
 (some y55.1)
def f35_j4 (m : Nat) (a0 : ByteArray) (a1 : Int) (v2 : Int) (v3 : Int) : Option Int :=
 cnd (decide (w64 (a1 + v2) > (a0.size : Int)))
 (some (-1))
 (brk (iter (fun (y : Int × Int) => f35_B2 m a0 a1 v2 y.1 y.2) m (v3, 1)) some fun y55 =>
 bnd (f55 m y55.1) fun v57 =>
 bnd (cnd (!v57)
 (some true)
 (bnd (f36 m y55.1) fun v67 =>
 some (v67 != v2))) fun v65 =>
 f35_r3 m y55 v65)
def f35_j5 (m : Nat) (a0 : ByteArray) (a1 : Int) (v68 : Int) (v69 : Int) : Option Int :=
 f35_j4 m a0 a1 v68 v69
def f35_j6 (m : Nat) (a0 : ByteArray) (a1 : Int) (v79 : Int) (v80 : Int) : Option Int :=
 f35_j5 m a0 a1 v79 v80
def f35 (m : Nat) (a0 : ByteArray) (a1 : Int) : Option Int :=
 bnd (sidx a0 a1) fun v1 =>
 cnd (decide (w64 v1 ≥ 240))
 (f35_j4 m a0 a1 4 (w64 (w64 v1 - 240)))
 (cnd (decide (w64 v1 ≥ 224))
 (f35_j5 m a0 a1 3 (w64 (w64 v1 - 224)))
 (cnd (decide (w64 v1 ≥ 192))
 (f35_j6 m a0 a1 2 (w64 (w64 v1 - 192)))
 (cnd (decide (w64 v1 ≥ 128))
 (some (-1))
 (f35_j6 m a0 a1 1 (w64 v1)))))
noncomputable abbrev X35 (n : Nat) : Cx := cxOf Proofs.Tryd.prog EG 35 n
noncomputable def C35 : Code := bodyOf Proofs.Tryd.prog 35
noncomputable abbrev p35_0 : Code := cR (cR (cR (cR (cR (cR (cR C35))))))
theorem ok35 (m : Nat) (a0 : ByteArray) (a1 : Int) (o : Int) (h : f35 m a0 a1 = some o) (n : Nat) (hn : m + 2 ≤ n) : Fn Proofs.Tryd.prog EG n 35 [.v (eS a0), .v (eI a1)] (eI o) := by
 obtain ⟨n, rfl⟩ : ∃ q, n = q + 1 := ⟨n - 1, by omega⟩
 unfold f35 at h
 refine Fn.of (by kernel_rfl) (by kernel_rfl) (by kernel_rfl) ⟨(.v (.str a0)) :: (dI a1) :: u40 (u25 []), []⟩ (by kernel_rfl) ?_
 refine Wp.sq ?_
 refine Wp.rg ?_
 refine Ops.sg 1 1 ?_
 refine Ops.dn ?_
 refine seqQ.n ?_
 refine Wp.sq ?_
 refine Wp.rg ?_
 refine Ops.sg 2 2 ?_
 obtain ⟨v1, ev1, h⟩ := bnd_some h
 refine Ops.on 3 (fun h0 e0 => (str_ix (T := T) h0 9 a0 a1 v1 ev1 (by kernel_rfl))) ?_
 refine Ops.sg 2 5 ?_
 refine Ops.dn ?_
 refine seqQ.n ?_
 refine Wp.sq ?_
 refine Wp.rg ?_
 refine Ops.sg 1 1 ?_
 refine Ops.dn ?_
 refine seqQ.n ?_
 refine Wp.sq ?_
 refine Wp.rg ?_
 refine Ops.sg 2 2 ?_
 refine Ops.dn ?_
 refine seqQ.n ?_
 refine Wp.sq ?_
 refine Wp.sq ?_
 refine Wp.rg ?_
 refine Ops.sg 2 2 ?_
 refine Ops.dn ?_
 refine seqQ.n ?_
 have J35j16 : ∀ (v2 : Int) (v3 : Int) (d4 : D) (d5 : D) (d6 : D) (d7 : D) (d8 : D) (d9 : D) (d10 : D) (d11 : D) (d12 : D) (d13 : D) (d14 : D) (d15 : D), f35_j4 m a0 a1 v2 v3 = some o → (seqQ (X35 n) (cR (cR (cR (cR (cR C35))))) (fnQ (X35 n).E.T (resOf Proofs.Tryd.prog 35) (eI o))) .normal ⟨(.v (.str a0)) :: (dI a1) :: u2 ((dI 0) :: (dI (w64 v1)) :: (dI v2) :: (dI v3) :: u2 ((.v (.str a0)) :: (dI a1) :: (.v (.int .u8 v1)) :: (dI (w64 v1)) :: (dI (w64 v1)) :: (dI (w64 v1)) :: (dB (decide (w64 v1 ≥ 240))) :: d4 :: d5 :: d6 :: d7 :: d8 :: d9 :: d10 :: d11 :: d12 :: d13 :: d14 :: d15 :: u38 [])), []⟩ := by
  intro v2 v3 d4 d5 d6 d7 d8 d9 d10 d11 d12 d13 d14 d15 h
  unfold f35_j4 at h
  refine seqQ.n ?_
  refine Wp.sq ?_
  refine Wp.sq ?_
  refine Wp.rg ?_
  refine Ops.sg 6 6 ?_
  refine Ops.dn ?_
  refine seqQ.n ?_
  refine Wp.cnd h [0, 1, 4, 6, 7] 0 (by kernel_rfl) (fun h => ?_) (fun h => ?_)
  ·refine Wp.sq ?_
   refine Wp.rg ?_
   refine Ops.sg 1 1 ?_
   refine Ops.dn ?_
   refine seqQ.n ?_
   refine Wp.ret (by kernel_rfl) ?_
   refine sqQ.r ?_
   refine seqQ.r ?_
   exact fnQ.r' (X35 n) (fun z => (eI z)) h (RetOk.mk' (dI (-1)) (by kernel_rfl) (by kernel_rfl))
  ·refine Wp.sk ?_
   refine sqQ.n' ?_
   refine seqQ.n ?_
   refine Wp.sq ?_
   refine Wp.sq ?_
   refine Wp.rg ?_
   refine Ops.sg 1 1 ?_
   refine Ops.dn ?_
   refine seqQ.n ?_
   refine Wp.block' 0 [4, 6, 7] 0 (by kernel_rfl) ?_
   have hLx54 : ∀ (kx38 : Nat) (v35 : Int) (v36 : Int)  (ox37 : Int ⊕ (Int × Int)), iter (fun (y : Int × Int) => f35_B2 m a0 a1 v2 y.1 y.2) kx38 (v35, v36) = some ox37 → ∀ nx39, kx38 ≤ nx39 → (∀ r, ox37 = .inl r → ∀ σ, RetOk (X35 n) (resOf Proofs.Tryd.prog 35) (eI r) σ → (seqQ (X35 n) p35_0 (fnQ (X35 n).E.T (resOf Proofs.Tryd.prog 35) (eI o))) .ret σ) → (∀ (y : Int × Int) , ox37 = .inr y → (seqQ (X35 n) p35_0 (fnQ (X35 n).E.T (resOf Proofs.Tryd.prog 35) (eI o))) .normal ⟨(.v (.str a0)) :: (dI a1) :: q2 ((dI 0) :: q1 ((dI v2) :: (dI y.1) :: (dI y.2) :: q40 (q18 []))), []⟩) → Lp (X35 n) [0, 1, 4, 6, 7, 8] 0 (cL (cL (cR (cL (cR (cR (cR (cR (cR (cR C35)))))))))) nx39 ⟨(.v (.str a0)) :: (dI a1) :: q2 ((dI 0) :: q1 ((dI v2) :: (dI v35) :: (dI v36) :: q40 (q18 []))), []⟩ (blkQ (X35 n) 0 [4, 6, 7] 0 (seqQ (X35 n) p35_0 (fnQ (X35 n).E.T (resOf Proofs.Tryd.prog 35) (eI o)))) := by
    intro kx38
    induction kx38 with
    | zero => intro v35 v36  ox37 h; exact (iter_zero h).elim
    | succ kx38 ihx40 =>
     intro v35 v36  ox37 h nx39 hnx43 hrx41 hxx42
     obtain ⟨nx39, rfl⟩ : ∃ q, nx39 = q + 1 := ⟨nx39 - 1, by omega⟩
     obtain ⟨sx44, h, hsx45⟩ := iter_some h
     have h : f35_B2 m a0 a1 v2 v35 v36 = some sx44 := h
     unfold f35_B2 at h
     refine Lp.succ ?_
     refine Wp.sq ?_
     refine Wp.sq ?_
     refine Wp.rg ?_
     refine Ops.sg 3 3 ?_
     refine Ops.dn ?_
     refine seqQ.n ?_
     refine Wp.cnd h [0, 1, 4, 6, 7, 8] 0 (by kernel_rfl) (fun h => ?_) (fun h => ?_)
     ·refine Wp.sk ?_
      refine sqQ.n' ?_
      refine seqQ.n ?_
      refine Wp.sq ?_
      refine Wp.block' 1 [0, 1, 4, 6, 7, 8] 0 (by kernel_rfl) ?_
      refine Wp.sq ?_
      refine Wp.rg ?_
      refine Ops.sg 4 4 ?_
      obtain ⟨v46, ev46, h⟩ := bnd_some h
      refine Ops.on 5 (fun h0 e0 => (str_ix (T := T) h0 9 a0 (w64 (a1 + v36)) v46 ev46 (by kernel_rfl))) ?_
      refine Ops.sg 2 7 ?_
      refine Ops.dn ?_
      refine seqQ.n ?_
      refine Wp.sq ?_
      refine Wp.sq ?_
      refine Wp.rg ?_
      refine Ops.sg 3 3 ?_
      refine Ops.hv (fun KQ => ∀ (d49 d50 : D) (v51 : Bool) (v52 : Bool), f35_r1 m v35 v36 v46 v52 = some sx44 → KQ 6 ⟨(.v (.str a0)) :: (dI a1) :: q2 ((dI 0) :: q1 ((dI v2) :: (dI v35) :: (dI v36) :: (dI (w64 v46)) :: q25 ((dI v36) :: (dI v2) :: (dB (decide (v36 < v2))) :: q2 ((.v (.str a0)) :: (dI a1) :: (dI v36) :: (dI (w64 (a1 + v36))) :: (.v (.int .u8 v46)) :: (dI (w64 v46)) :: (dI (w64 v46)) :: (dB v51) :: (dB v51) :: d49 :: d50 :: (dB v52) :: q15 [])))), []⟩) ?_ fun J35j53 => ?_
      ·intro d49 d50 v51 v52 h
       unfold f35_r1 at h
       refine Ops.dn ?_
       refine seqQ.n ?_
       refine Wp.cnd h [0, 1, 4, 6, 7, 8, 9] 0 (by kernel_rfl) (fun h => ?_) (fun h => ?_)
       ·refine Wp.sq ?_
        refine Wp.rg ?_
        refine Ops.sg 1 1 ?_
        refine Ops.dn ?_
        refine seqQ.n ?_
        refine Wp.ret (by kernel_rfl) ?_
        refine sqQ.r ?_
        refine seqQ.r ?_
        refine blkQ.r ?_
        refine seqQ.r ?_
        cases h
        refine lpQ.r ?_
        refine blkQ.r ?_
        exact hrx41 _ hsx45 _ (RetOk.forget [0, 1, 4, 6, 7, 8] (by kernel_rfl) (RetOk.mk' (dI (-1)) (by kernel_rfl) (by kernel_rfl)))
       ·refine Wp.sk ?_
        refine sqQ.n' ?_
        refine seqQ.n ?_
        refine Wp.rg ?_
        refine Ops.sg 6 6 ?_
        refine Ops.dn ?_
        refine blkQ.n' ?_
        refine seqQ.n ?_
        refine Wp.rg ?_
        refine Ops.sg 3 3 ?_
        refine Ops.dn ?_
        refine lpQ.n ⟨(.v (.str a0)) :: (dI a1) :: q2 ((dI 0) :: q1 ((dI v2) :: (dI (w64 (w64 (w64 (v35 * 64) + w64 v46) - 128))) :: (dI (w64 (v36 + 1))) :: q40 (q18 []))), []⟩ (by kernel_rfl) ?_
        cases h
        exact ihx40 (w64 (w64 (w64 (v35 * 64) + w64 v46) - 128)) (w64 (v36 + 1))  _ hsx45 _ (by omega) hrx41 hxx42
      refine Ops.hv (fun KQ => ∀ v47 : Bool, f35_r1 m v35 v36 v46 (v47 || (decide (w64 v46 > 191))) = some sx44 → KQ 3 ⟨(.v (.str a0)) :: (dI a1) :: q2 ((dI 0) :: q1 ((dI v2) :: (dI v35) :: (dI v36) :: (dI (w64 v46)) :: q25 ((dI v36) :: (dI v2) :: (dB (decide (v36 < v2))) :: q2 ((.v (.str a0)) :: (dI a1) :: (dI v36) :: (dI (w64 (a1 + v36))) :: (.v (.int .u8 v46)) :: (dI (w64 v46)) :: (dI (w64 v46)) :: (dB v47) :: (dB v47) :: q18 [])))), []⟩) ?_ fun G35g48 => Ops.st _ (by kernel_rfl) (G35g48 (decide (w64 v46 < 128)) h)
      intro v47 h
      cases v47
      ·refine Ops.sg 3 6 ?_
       exact Ops.st _ (by kernel_rfl) (J35j53 (dI (w64 v46)) (dB (decide (w64 v46 > 191))) false (decide (w64 v46 > 191)) h)
      ·refine Ops.sg 3 6 ?_
       exact Ops.st _ (by kernel_rfl) (J35j53 U U true true h)
     ·refine Wp.exit (id := 0) (by kernel_rfl) ?_
      refine sqQ.x ?_
      refine seqQ.x ?_
      cases h
      refine lpQ.x ?_
      refine blkQ.x ⟨(.v (.str a0)) :: (dI a1) :: q2 ((dI 0) :: q1 ((dI v2) :: (dI v35) :: (dI v36) :: q40 (q18 []))), []⟩ (by kernel_rfl) ?_
      exact hxx42 (v35, v36)  hsx45
   refine Wp.loop' [0, 1, 4, 6, 7, 8] 0 (by kernel_rfl) ⟨(.v (.str a0)) :: (dI a1) :: q2 ((dI 0) :: q1 ((dI v2) :: (dI v3) :: (dI 1) :: q40 (q18 []))), []⟩ (by kernel_rfl) ?_
   rcases brk_some h with ⟨r56, er56, h⟩ | ⟨y55, ey55, h⟩
   ·refine hLx54 _ v3 1  _ er56 n (by omega) (fun r er σ hσ => ?_) (fun y  ey => by cases ey)
    cases er
    refine seqQ.r ?_
    exact fnQ.r' (X35 n) (fun z => (eI z)) h hσ
   ·refine hLx54 _ v3 1  _ ey55 n (by omega) (fun r er => by cases er) (fun y  ey => ?_)
    cases ey
    refine seqQ.n ?_
    refine Wp.sq ?_
    refine Wp.sq ?_
    refine Wp.rg ?_
    refine Ops.sg 1 1 ?_
    obtain ⟨v57, ev57, h⟩ := bnd_some h
    refine Ops.on 2 (fun h0 e0 => (call_ok (E' := EG) (h := h0) (by kernel_rfl) (Args.v (vI y55.1) (eI y55.1) (by kernel_rfl) Args.nil) (ok55 m y55.1 v57 ev57 n (by omega)))) ?_
    refine Ops.sg 2 4 ?_
    refine Ops.hv (fun KQ => ∀ (d60 d61 d62 d63 : D) (v64 : Bool) (v65 : Bool), f35_r3 m y55 v65 = some o → KQ 9 ⟨(.v (.str a0)) :: (dI a1) :: q2 ((dI 0) :: q1 ((dI v2) :: (dI y55.1) :: (dI y55.2) :: q40 (q8 ((dI y55.1) :: (dB v57) :: (dB v64) :: (dB v64) :: d60 :: d61 :: d62 :: d63 :: (dB v65) :: q1 [])))), []⟩) ?_ fun J35j66 => ?_
    ·intro d60 d61 d62 d63 v64 v65 h
     unfold f35_r3 at h
     refine Ops.dn ?_
     refine seqQ.n ?_
     refine Wp.cnd h [4, 7] 0 (by kernel_rfl) (fun h => ?_) (fun h => ?_)
     ·refine Wp.sq ?_
      refine Wp.rg ?_
      refine Ops.sg 1 1 ?_
      refine Ops.dn ?_
      refine seqQ.n ?_
      refine Wp.ret (by kernel_rfl) ?_
      refine sqQ.r ?_
      refine seqQ.r ?_
      exact fnQ.r' (X35 n) (fun z => (eI z)) h (RetOk.mk' (dI (-1)) (by kernel_rfl) (by kernel_rfl))
     ·refine Wp.sk ?_
      refine sqQ.n' ?_
      refine seqQ.n ?_
      refine Wp.sq ?_
      refine Wp.rg ?_
      refine Ops.sg 2 2 ?_
      refine Ops.dn ?_
      refine seqQ.n ?_
      refine Wp.ret (by kernel_rfl) ?_
      exact fnQ.r' (X35 n) (fun z => (eI z)) h (RetOk.mk' (dI y55.1) (by kernel_rfl) (by kernel_rfl))
    obtain ⟨v65, ev65, h⟩ := bnd_some h
    refine Ops.hv (fun KQ => ∀ v58 : Bool, (cnd v58 (some true) (bnd (f36 m y55.1) fun v67 => some (v67 != v2))) = some v65 → KQ 4 ⟨(.v (.str a0)) :: (dI a1) :: q2 ((dI 0) :: q1 ((dI v2) :: (dI y55.1) :: (dI y55.2) :: q40 (q8 ((dI y55.1) :: (dB v57) :: (dB v58) :: (dB v58) :: q6 [])))), []⟩) ?_ fun G35g59 => Ops.st _ (by kernel_rfl) (G35g59 (!v57) ev65)
    intro v58 ev65
    cases v58
    ·have ev65 := cnd_f ev65
     refine Ops.sg 1 5 ?_
     obtain ⟨v67, ev67, ev65⟩ := bnd_some ev65
     refine Ops.on 6 (fun h0 e0 => (call_ok (E' := EG) (h := h0) (by kernel_rfl) (Args.v (vI y55.1) (eI y55.1) (by kernel_rfl) Args.nil) (ok36 m y55.1 v67 ev67 n (by omega)))) ?_
     refine Ops.sg 3 9 ?_
     exact Ops.st _ (by kernel_rfl) (J35j66 (dI y55.1) (dI v67) (dI v2) (dB (v67 != v2)) false (v67 != v2) (some_sub (fun v65 => f35_r3 m y55 v65 = some o) ev65 h))
    ·have ev65 := cnd_t ev65
     refine Ops.sg 5 9 ?_
     exact Ops.st _ (by kernel_rfl) (J35j66 U U U U true true (some_sub (fun v65 => f35_r3 m y55 v65 = some o) ev65 h))
 refine Wp.cnd h [0, 1, 4, 6, 7] 0 (by kernel_rfl) (fun h => ?_) (fun h => ?_)
 ·refine Wp.sq ?_
  refine Wp.rg ?_
  refine Ops.sg 1 1 ?_
  refine Ops.dn ?_
  refine seqQ.n ?_
  refine Wp.rg ?_
  refine Ops.sg 3 3 ?_
  refine Ops.dn ?_
  refine sqQ.n ⟨(.v (.str a0)) :: (dI a1) :: u2 ((dI 0) :: (dI (w64 v1)) :: (dI 4) :: (dI (w64 (w64 v1 - 240))) :: u2 ((.v (.str a0)) :: (dI a1) :: (.v (.int .u8 v1)) :: (dI (w64 v1)) :: (dI (w64 v1)) :: (dI (w64 v1)) :: (dB (decide (w64 v1 ≥ 240))) :: (dI (w64 v1)) :: (dI (w64 (w64 v1 - 240))) :: u40 (u8 []))), []⟩ (by kernel_rfl) ?_
  exact J35j16 4 (w64 (w64 v1 - 240)) _ _ _ _ _ _ _ _ _ _ _ _ h
 ·refine Wp.sq ?_
  refine Wp.rg ?_
  refine Ops.sg 2 2 ?_
  refine Ops.dn ?_
  refine seqQ.n ?_
  have J35j78 : ∀ (v68 : Int) (v69 : Int) (d70 : D) (d71 : D) (d72 : D) (d73 : D) (d74 : D) (d75 : D) (d76 : D) (d77 : D), f35_j5 m a0 a1 v68 v69 = some o → (sqQ (X35 n) [0, 1, 4, 6, 7] 0 (seqQ (X35 n) (cR (cR (cR (cR (cR C35))))) (fnQ (X35 n).E.T (resOf Proofs.Tryd.prog 35) (eI o)))) .normal ⟨(.v (.str a0)) :: (dI a1) :: u2 ((dI 0) :: (dI (w64 v1)) :: (dI v68) :: (dI v69) :: u2 ((.v (.str a0)) :: (dI a1) :: (.v (.int .u8 v1)) :: (dI (w64 v1)) :: (dI (w64 v1)) :: (dI (w64 v1)) :: (dB (decide (w64 v1 ≥ 240))) :: u2 ((dI (w64 v1)) :: (dB (decide (w64 v1 ≥ 224))) :: d70 :: d71 :: d72 :: d73 :: d74 :: d75 :: d76 :: d77 :: u38 []))), []⟩ := by
   intro v68 v69 d70 d71 d72 d73 d74 d75 d76 d77 h
   unfold f35_j5 at h
   refine sqQ.n ⟨(.v (.str a0)) :: (dI a1) :: u2 ((dI 0) :: (dI (w64 v1)) :: (dI v68) :: (dI v69) :: u2 ((.v (.str a0)) :: (dI a1) :: (.v (.int .u8 v1)) :: (dI (w64 v1)) :: (dI (w64 v1)) :: (dI (w64 v1)) :: (dB (decide (w64 v1 ≥ 240))) :: u2 ((dI (w64 v1)) :: (dB (decide (w64 v1 ≥ 224))) :: d70 :: d71 :: d72 :: d73 :: d74 :: d75 :: d76 :: d77 :: u38 []))), []⟩ (by kernel_rfl) ?_
   exact J35j16 v68 v69 _ _ _ _ _ _ _ _ _ _ _ _ h
  refine Wp.cnd h [0, 1, 4, 6, 7] 0 (by kernel_rfl) (fun h => ?_) (fun h => ?_)
  ·refine Wp.sq ?_
   refine Wp.rg ?_
   refine Ops.sg 1 1 ?_
   refine Ops.dn ?_
   refine seqQ.n ?_
   refine Wp.rg ?_
   refine Ops.sg 3 3 ?_
   refine Ops.dn ?_
   refine sqQ.n ⟨(.v (.str a0)) :: (dI a1) :: u2 ((dI 0) :: (dI (w64 v1)) :: (dI 3) :: (dI (w64 (w64 v1 - 224))) :: u2 ((.v (.str a0)) :: (dI a1) :: (.v (.int .u8 v1)) :: (dI (w64 v1)) :: (dI (w64 v1)) :: (dI (w64 v1)) :: (dB (decide (w64 v1 ≥ 240))) :: u2 ((dI (w64 v1)) :: (dB (decide (w64 v1 ≥ 224))) :: (dI (w64 v1)) :: (dI (w64 (w64 v1 - 224))) :: u40 (u4 [])))), []⟩ (by kernel_rfl) ?_
   exact J35j78 3 (w64 (w64 v1 - 224)) _ _ _ _ _ _ _ _ h
  ·refine Wp.sq ?_
   refine Wp.rg ?_
   refine Ops.sg 2 2 ?_
   refine Ops.dn ?_
   refine seqQ.n ?_
   have J35j85 : ∀ (v79 : Int) (v80 : Int) (d81 : D) (d82 : D) (d83 : D) (d84 : D), f35_j6 m a0 a1 v79 v80 = some o → (sqQ (X35 n) [0, 1, 4, 6, 7] 0 (sqQ (X35 n) [0, 1, 4, 6, 7] 0 (seqQ (X35 n) (cR (cR (cR (cR (cR C35))))) (fnQ (X35 n).E.T (resOf Proofs.Tryd.prog 35) (eI o))))) .normal ⟨(.v (.str a0)) :: (dI a1) :: u2 ((dI 0) :: (dI (w64 v1)) :: (dI v79) :: (dI v80) :: u2 ((.v (.str a0)) :: (dI a1) :: (.v (.int .u8 v1)) :: (dI (w64 v1)) :: (dI (w64 v1)) :: (dI (w64 v1)) :: (dB (decide (w64 v1 ≥ 240))) :: u2 ((dI (w64 v1)) :: (dB (decide (w64 v1 ≥ 224))) :: u2 ((dI (w64 v1)) :: (dB (decide (w64 v1 ≥ 192))) :: d81 :: d82 :: d83 :: d84 :: u38 [])))), []⟩ := by
    intro v79 v80 d81 d82 d83 d84 h
    unfold f35_j6 at h
    refine sqQ.n ⟨(.v (.str a0)) :: (dI a1) :: u2 ((dI 0) :: (dI (w64 v1)) :: (dI v79) :: (dI v80) :: u2 ((.v (.str a0)) :: (dI a1) :: (.v (.int .u8 v1)) :: (dI (w64 v1)) :: (dI (w64 v1)) :: (dI (w64 v1)) :: (dB (decide (w64 v1 ≥ 240))) :: u2 ((dI (w64 v1)) :: (dB (decide (w64 v1 ≥ 224))) :: u2 ((dI (w64 v1)) :: (dB (decide (w64 v1 ≥ 192))) :: d81 :: d82 :: d83 :: d84 :: u38 [])))), []⟩ (by kernel_rfl) ?_
    exact J35j78 v79 v80 _ _ _ _ _ _ _ _ h
   refine Wp.cnd h [0, 1, 4, 6, 7] 0 (by kernel_rfl) (fun h => ?_) (fun h => ?_)
   ·refine Wp.sq ?_
    refine Wp.rg ?_
    refine Ops.sg 1 1 ?_
    refine Ops.dn ?_
    refine seqQ.n ?_
    refine Wp.rg ?_
    refine Ops.sg 3 3 ?_
    refine Ops.dn ?_
    refine sqQ.n ⟨(.v (.str a0)) :: (dI a1) :: u2 ((dI 0) :: (dI (w64 v1)) :: (dI 2) :: (dI (w64 (w64 v1 - 192))) :: u2 ((.v (.str a0)) :: (dI a1) :: (.v (.int .u8 v1)) :: (dI (w64 v1)) :: (dI (w64 v1)) :: (dI (w64 v1)) :: (dB (decide (w64 v1 ≥ 240))) :: u2 ((dI (w64 v1)) :: (dB (decide (w64 v1 ≥ 224))) :: u2 ((dI (w64 v1)) :: (dB (decide (w64 v1 ≥ 192))) :: (dI (w64 v1)) :: (dI (w64 (w64 v1 - 192))) :: u40 [])))), []⟩ (by kernel_rfl) ?_
    exact J35j85 2 (w64 (w64 v1 - 192)) _ _ _ _ h
   ·refine Wp.sq ?_
    refine Wp.rg ?_
    refine Ops.sg 2 2 ?_
    refine Ops.dn ?_
    refine seqQ.n ?_
    refine Wp.cnd h [0, 1, 4, 6, 7] 0 (by kernel_rfl) (fun h => ?_) (fun h => ?_)
    ·refine Wp.sq ?_
     refine Wp.rg ?_
     refine Ops.sg 1 1 ?_
     refine Ops.dn ?_
     refine seqQ.n ?_
     refine Wp.ret (by kernel_rfl) ?_
     refine sqQ.r ?_
     refine sqQ.r ?_
     refine sqQ.r ?_
     refine sqQ.r ?_
     refine seqQ.r ?_
     exact fnQ.r' (X35 n) (fun z => (eI z)) h (RetOk.mk' (dI (-1)) (by kernel_rfl) (by kernel_rfl))
    ·refine Wp.sk ?_
     refine sqQ.n' ?_
     refine sqQ.n ⟨(.v (.str a0)) :: (dI a1) :: u2 ((dI 0) :: (dI (w64 v1)) :: (dI 1) :: (dI (w64 v1)) :: u2 ((.v (.str a0)) :: (dI a1) :: (.v (.int .u8 v1)) :: (dI (w64 v1)) :: (dI (w64 v1)) :: (dI (w64 v1)) :: (dB (decide (w64 v1 ≥ 240))) :: u2 ((dI (w64 v1)) :: (dB (decide (w64 v1 ≥ 224))) :: u2 ((dI (w64 v1)) :: (dB (decide (w64 v1 ≥ 192))) :: u2 ((dI (w64 v1)) :: (dB (decide (w64 v1 ≥ 128))) :: u38 []))))), []⟩ (by kernel_rfl) ?_
     exact J35j85 1 (w64 v1) _ _ _ _ h
end Go.Abs
