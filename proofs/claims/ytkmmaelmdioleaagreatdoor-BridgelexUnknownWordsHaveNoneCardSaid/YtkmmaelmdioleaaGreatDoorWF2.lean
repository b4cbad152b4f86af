import Derived.Test.YtkmmaelmdioleaaGreatDoorWF1
namespace Go.Abs
set_option linter.unusedVariables false
set_option linter.unusedSimpArgs false
set_option linter.unnecessarySimpa false
set_option maxRecDepth 100000
noncomputable def f45_r1 (m : Nat) (v96 : Int) (v137 : Bool) : Option (Stp Bool (Int)) :=
 cnd (!v137)
 (some (.ret false))
 (some (.nxt (w64 (v96 + 1))))
noncomputable def f45_r2 (m : Nat) (v96 v106 : Int) (v130 : Bool) : Option (Stp Bool (Int)) :=
 f45_r1 m v96 (v130 || (v106 == 45))
noncomputable def f45_r3 (m : Nat) (v96 v106 : Int) (v123 : Bool) : Option (Stp Bool (Int)) :=
 f45_r2 m v96 v106 (v123 || (v106 == 95))
noncomputable def f45_r4 (m : Nat) (v96 v106 : Int) (v112 : Bool) : Option (Stp Bool (Int)) :=
 f45_r3 m v96 v106 (v112 || ((decide (v106 ≥ 48)) && (decide (v106 ≤ 57))))
noncomputable def f45_B5 (m : Nat) (a0 : ByteArray) (v96 : Int) : Option (Stp Bool (Int)) :=
 cnd (decide (v96 < (a0.size : Int)))
 (bnd (sidx a0 v96) fun v106 =>
 f45_r4 m v96 v106 ((decide (v106 ≥ 97)) && (decide (v106 ≤ 122))))
 (some (.brk v96))
noncomputable def f45_r6 (m : Nat) (a0 : ByteArray) (v23 : Bool) : Option Bool :=
 cnd v23
 (some false)
 (brk (iter (fun (y : Int) => f45_B5 m a0 y) m 0) some fun y142 =>
 some true)
noncomputable def f45_r7 (m : Nat) (a0 : ByteArray) (v15 : Bool) : Option Bool :=
 bnd (cnd v15
 (some true)
 (bnd (sidx a0 0) fun v144 =>
 some (decide (v144 > 122)))) fun v23 =>
 f45_r6 m a0 v23
noncomputable def f45_r8 (m : Nat) (a0 : ByteArray) (v7 : Bool) : Option Bool :=
 bnd (cnd v7
 (some true)
 (bnd (sidx a0 0) fun v145 =>
 some (decide (v145 < 97)))) fun v15 =>
 f45_r7 m a0 v15
noncomputable def f45 (m : Nat) (a0 : ByteArray) : Option Bool :=
 f45_r8 m a0 (((a0.size : Int) == 0) || (decide ((a0.size : Int) > 30)))
noncomputable abbrev X45 (n : Nat) : Cx := cxOf Proofs.Tryz.prog E 45 n
noncomputable def C45 : Code := bodyOf Proofs.Tryz.prog 45
theorem ok45 (m : Nat) (a0 : ByteArray) (o : Bool) (h : f45 m a0 = some o) (n : Nat) (hn : m + 1 ≤ n) : Fn Proofs.Tryz.prog E n 45 [.v (eS a0)] (eB o) := by
 obtain ⟨n, rfl⟩ : ∃ q, n = q + 1 := ⟨n - 1, by omega⟩
 unfold f45 at h
 refine Fn.of (by kernel_rfl) (by kernel_rfl) (by kernel_rfl) ⟨(.v (.str a0))::u40 (u14 []), []⟩ (by kernel_rfl) (Wp.sq (Wp.rg (Ops.sg 1 1 (Ops.dn (seqQ.n (Wp.sq (Wp.sq (Wp.rg (Ops.sg 4 4 ?_)))))))))
 refine Ops.hv (fun KQ => ∀ (d3 d4 d5 : D) (v6 v7 : Bool), f45_r8 m a0 v7 = some o → KQ 8 ⟨Zs20 a0 (a0.size : Int) v6 (d3::d4::d5::(dB v7)::u40 (u2 [])), []⟩) ?_ fun J45j8 => ?_
 ·intro d3 d4 d5 v6 v7 h
  unfold f45_r8 at h
  refine Ops.sg 1 9 ?_
  refine Ops.hv (fun KQ => ∀ (d11 d12 d13 : D) (v14 v15 : Bool), f45_r7 m a0 v15 = some o → KQ 13 ⟨Zs20 a0 (a0.size : Int) v6 (d3::d4::d5::(dB v14)::(dB v14)::d11::d12::d13::(dB v15)::u37 []), []⟩) ?_ fun J45j16 => ?_
  ·intro d11 d12 d13 v14 v15 h
   unfold f45_r7 at h
   refine Ops.sg 1 14 ?_
   refine Ops.hv (fun KQ => ∀ (d19 d20 d21 : D) (v22 v23 : Bool), f45_r6 m a0 v23 = some o → KQ 18 ⟨Zs20 a0 (a0.size : Int) v6 (d3::d4::d5::(dB v14)::(dB v14)::d11::d12::d13::(dB v22)::(dB v22)::d19::d20::d21::(dB v23)::u32 []), []⟩) ?_ fun J45j24 => ?_
   ·intro d19 d20 d21 v22 v23 h
    unfold f45_r6 at h
    refine Ops.dn (seqQ.n ?_)
    refine Wp.cd h [0, 2] 0 (fun h => ?_) (fun h => ?_)
    ·refine Wp.sq (Wp.rg (Ops.sg 1 1 (Ops.dn (seqQ.n (Wp.rt (sqQ.r (seqQ.r ?_)))))))
     exact fnQ.r' (X45 n) (fun z => (eB z)) h (RetOk.mk' (dB false) (by kernel_rfl) (by kernel_rfl))
    ·refine Wp.sk (sqQ.n' (seqQ.n (Wp.sq (Wp.sq (Wp.rg (Ops.sg 1 1 (Ops.dn (seqQ.n (Wp.bk 0 [2] 0 ?_)))))))))
     have hLx141 : ∀ (kx98 : Nat) (v96 : Int)  (ox97 : Bool ⊕ (Int)), iter (fun (y : Int) => f45_B5 m a0 y) kx98 v96 = some ox97 → ∀ nx99, kx98 ≤ nx99 → (∀ r, ox97 = .inl r → ∀ σ, RetOk (X45 n) (resOf Proofs.Tryz.prog 45) (eB r) σ → (seqQ (X45 n) (cR (cR (cR C45))) (fnQ (X45 n).E.T (resOf Proofs.Tryz.prog 45) (eB o))) .ret σ) → (∀ (y : Int) , ox97 = .inr y → (seqQ (X45 n) (cR (cR (cR C45))) (fnQ (X45 n).E.T (resOf Proofs.Tryz.prog 45) (eB o))) .normal ⟨Zs21 a0 ((dI y)::q40 (q11 [])), []⟩) → Lp (X45 n) [0, 2, 3] 0 (cL (cL (cR (cL (cR (cR C45)))))) nx99 ⟨Zs21 a0 ((dI v96)::q40 (q11 [])), []⟩ (blkQ (X45 n) 0 [2] 0 (seqQ (X45 n) (cR (cR (cR C45))) (fnQ (X45 n).E.T (resOf Proofs.Tryz.prog 45) (eB o)))) := by
      intro kx98
      induction kx98 with
      | zero => intro v96  ox97 h; exact (iter_zero h).elim
      | succ kx98 ihx100 =>
       intro v96  ox97 h nx99 hnx103 hrx101 hxx102
       obtain ⟨nx99, rfl⟩ : ∃ q, nx99 = q + 1 := ⟨nx99 - 1, by omega⟩
       obtain ⟨sx104, h, hsx105⟩ := iter_some h
       have h : f45_B5 m a0 v96 = some sx104 := h
       unfold f45_B5 at h
       refine Lp.succ (Wp.sq (Wp.sq (Wp.rg (Ops.sg 4 4 (Ops.dn (seqQ.n ?_))))))
       refine Wp.cd h [0, 2, 3] 0 (fun h => ?_) (fun h => ?_)
       ·refine Wp.sk (sqQ.n' (seqQ.n (Wp.sq (Wp.bk 1 [0, 2, 3] 0 (Wp.sq (Wp.rg (Ops.sg 2 2 ?_)))))))
        obtain ⟨v106, ev106, h⟩ := bnd_some h
        refine Ops.on 3 (fun h0 e0 => (str_ix (T := T) h0 9 a0 v96 v106 ev106 (by kernel_rfl))) ?_
        refine Ops.sg 1 4 (Ops.dn (seqQ.n (Wp.sq (Wp.rg (Ops.sg 3 3 ?_)))))
        refine Ops.hv (fun KQ => ∀ (d109 d110 : D) (v111 v112 : Bool), f45_r4 m v96 v106 v112 = some sx104 → KQ 6 ⟨Zs1 a0 v96 (.v (.int .u8 v106)) (a0.size : Int) (decide (v96 < (a0.size : Int))) v111 (d109::d110::(dB v112)::q17 []), []⟩) ?_ fun J45j113 => ?_
        ·intro d109 d110 v111 v112 h
         unfold f45_r4 at h
         refine Ops.sg 1 7 ?_
         refine Ops.hv (fun KQ => ∀ (d116 d117 d118 d119 d120 d121 : D) (v122 v123 : Bool), f45_r3 m v96 v106 v123 = some sx104 → KQ 14 ⟨Zs1 a0 v96 (.v (.int .u8 v106)) (a0.size : Int) (decide (v96 < (a0.size : Int))) v111 (d109::d110::(dB v122)::(dB v122)::d116::d117::d118::d119::d120::d121::(dB v123)::q9 []), []⟩) ?_ fun J45j124 => ?_
         ·intro d116 d117 d118 d119 d120 d121 v122 v123 h
          unfold f45_r3 at h
          refine Ops.sg 1 15 ?_
          refine Ops.hv (fun KQ => ∀ (d127 d128 : D) (v129 v130 : Bool), f45_r2 m v96 v106 v130 = some sx104 → KQ 18 ⟨Zs1 a0 v96 (.v (.int .u8 v106)) (a0.size : Int) (decide (v96 < (a0.size : Int))) v111 (d109::d110::(dB v122)::(dB v122)::d116::d117::d118::d119::d120::d121::(dB v129)::(dB v129)::d127::d128::(dB v130)::q5 []), []⟩) ?_ fun J45j131 => ?_
          ·intro d127 d128 v129 v130 h
           unfold f45_r2 at h
           refine Ops.sg 1 19 ?_
           refine Ops.hv (fun KQ => ∀ (d134 d135 : D) (v136 v137 : Bool), f45_r1 m v96 v137 = some sx104 → KQ 22 ⟨Zs1 a0 v96 (.v (.int .u8 v106)) (a0.size : Int) (decide (v96 < (a0.size : Int))) v111 (d109::d110::(dB v122)::(dB v122)::d116::d117::d118::d119::d120::d121::(dB v129)::(dB v129)::d127::d128::(dB v136)::(dB v136)::d134::d135::(dB v137)::q1 []), []⟩) ?_ fun J45j138 => ?_
           ·intro d134 d135 v136 v137 h
            unfold f45_r1 at h
            refine Ops.sg 1 23 (Ops.dn (seqQ.n ?_))
            refine Wp.cd h [0, 2, 3] 0 (fun h => ?_) (fun h => ?_)
            ·refine Wp.sq (Wp.rg (Ops.sg 1 1 (Ops.dn (seqQ.n (Wp.rt (sqQ.r (blkQ.r (seqQ.r ?_))))))))
             cases h
             refine lpQ.r (blkQ.r ?_)
             exact hrx101 _ hsx105 _ (RetOk.forget [0, 2, 3] (by kernel_rfl) (RetOk.mk' (dB false) (by kernel_rfl) (by kernel_rfl)))
            ·refine Wp.sk (sqQ.n' (blkQ.n' (seqQ.n (Wp.rg (Ops.sg 3 3 (Ops.dn (lpQ.m ⟨Zs21 a0 ((dI (w64 (v96 + 1)))::q40 (q11 [])), []⟩ ?_)))))))
             cases h
             exact ihx100 (w64 (v96 + 1))  _ hsx105 _ (by omega) hrx101 hxx102
           refine Ops.hv (fun KQ => ∀ v132 : Bool, f45_r1 m v96 (v132 || (v106 == 45)) = some sx104 → KQ 19 ⟨Zs1 a0 v96 (.v (.int .u8 v106)) (a0.size : Int) (decide (v96 < (a0.size : Int))) v111 (d109::d110::(dB v122)::(dB v122)::d116::d117::d118::d119::d120::d121::(dB v129)::(dB v129)::d127::d128::(dB v132)::(dB v132)::q4 []), []⟩) ?_ fun G45g133 => Ops.sx (G45g133 v130 h)
           intro v132 h
           cases v132
           ·refine Ops.sg 3 22 ?_
            exact Ops.sx (J45j138 (.v (.int .u8 v106)) (dB (v106 == 45)) false (v106 == 45) h)
           ·refine Ops.sg 3 22 ?_
            exact Ops.sx (J45j138 U U true true h)
          refine Ops.hv (fun KQ => ∀ v125 : Bool, f45_r2 m v96 v106 (v125 || (v106 == 95)) = some sx104 → KQ 15 ⟨Zs1 a0 v96 (.v (.int .u8 v106)) (a0.size : Int) (decide (v96 < (a0.size : Int))) v111 (d109::d110::(dB v122)::(dB v122)::d116::d117::d118::d119::d120::d121::(dB v125)::(dB v125)::q8 []), []⟩) ?_ fun G45g126 => Ops.sx (G45g126 v123 h)
          intro v125 h
          cases v125
          ·refine Ops.sg 3 18 ?_
           exact Ops.sx (J45j131 (.v (.int .u8 v106)) (dB (v106 == 95)) false (v106 == 95) h)
          ·refine Ops.sg 3 18 ?_
           exact Ops.sx (J45j131 U U true true h)
         refine Ops.hv (fun KQ => ∀ v114 : Bool, f45_r3 m v96 v106 (v114 || ((decide (v106 ≥ 48)) && (decide (v106 ≤ 57)))) = some sx104 → KQ 7 ⟨Zs1 a0 v96 (.v (.int .u8 v106)) (a0.size : Int) (decide (v96 < (a0.size : Int))) v111 (d109::d110::(dB v114)::(dB v114)::q16 []), []⟩) ?_ fun G45g115 => Ops.sx (G45g115 v112 h)
         intro v114 h
         cases v114
         ·refine Ops.sg 3 10 ?_
          refine Ops.hv (fun KQ => ∀ v139 : Bool, (f45_r3 m v96 v106 (false || (v139 && (decide (v106 ≤ 57))))) = some sx104 → KQ 10 ⟨Zs1 a0 v96 (.v (.int .u8 v106)) (a0.size : Int) (decide (v96 < (a0.size : Int))) v111 (d109::d110::(dB false)::(dB false)::(.v (.int .u8 v106))::(dB v139)::(dB v139)::q13 []), []⟩) ?_ fun G45g140 => Ops.sx (G45g140 (decide (v106 ≥ 48)) h)
          intro v139 h
          cases v139
          ·refine Ops.sg 4 14 ?_
           exact Ops.sx (J45j124 (.v (.int .u8 v106)) (dB false) (dB false) U U (dB false) false false h)
          ·refine Ops.sg 4 14 ?_
           exact Ops.sx (J45j124 (.v (.int .u8 v106)) (dB true) (dB true) (.v (.int .u8 v106)) (dB (decide (v106 ≤ 57))) (dB (decide (v106 ≤ 57))) false (decide (v106 ≤ 57)) h)
         ·refine Ops.sg 7 14 ?_
          exact Ops.sx (J45j124 U U U U U U true true h)
        refine Ops.hv (fun KQ => ∀ v107 : Bool, f45_r4 m v96 v106 (v107 && (decide (v106 ≤ 122))) = some sx104 → KQ 3 ⟨Zs1 a0 v96 (.v (.int .u8 v106)) (a0.size : Int) (decide (v96 < (a0.size : Int))) v107 (q20 []), []⟩) ?_ fun G45g108 => Ops.sx (G45g108 (decide (v106 ≥ 97)) h)
        intro v107 h
        cases v107
        ·refine Ops.sg 3 6 ?_
         exact Ops.sx (J45j113 U U false false h)
        ·refine Ops.sg 3 6 ?_
         exact Ops.sx (J45j113 (.v (.int .u8 v106)) (dB (decide (v106 ≤ 122))) true (decide (v106 ≤ 122)) h)
       ·refine Wp.ex 0 (sqQ.x (seqQ.x ?_))
        cases h
        refine lpQ.x (blkQ.w ⟨Zs21 a0 ((dI v96)::q40 (q11 [])), []⟩ ?_)
        exact hxx102 v96  hsx105
     refine Wp.loop' [0, 2, 3] 0 (by kernel_rfl) ⟨Zs21 a0 ((dI 0)::q40 (q11 [])), []⟩ (by kernel_rfl) ?_
     rcases brk_some h with ⟨r143, er143, h⟩ | ⟨y142, ey142, h⟩
     ·refine hLx141 _ 0  _ er143 n (by omega) (fun r er σ hσ => ?_) (fun y  ey => by cases ey)
      cases er
      refine seqQ.r ?_
      exact fnQ.r' (X45 n) (fun z => (eB z)) h hσ
     ·refine hLx141 _ 0  _ ey142 n (by omega) (fun r er => by cases er) (fun y  ey => ?_)
      cases ey
      refine seqQ.n (Wp.sq (Wp.rg (Ops.sg 1 1 (Ops.dn (seqQ.n (Wp.rt ?_))))))
      exact fnQ.r' (X45 n) (fun z => (eB z)) h (RetOk.mk' (dB true) (by kernel_rfl) (by kernel_rfl))
   obtain ⟨v23, ev23, h⟩ := bnd_some h
   refine Ops.hv (fun KQ => ∀ v17 : Bool, (cnd v17 (some true) (bnd (sidx a0 0) fun v144 => some (decide (v144 > 122)))) = some v23 → KQ 14 ⟨Zs20 a0 (a0.size : Int) v6 (d3::d4::d5::(dB v14)::(dB v14)::d11::d12::d13::(dB v17)::(dB v17)::u36 []), []⟩) ?_ fun G45g18 => Ops.sx (G45g18 v15 ev23)
   intro v17 ev23
   cases v17
   ·have ev23 := cnd_f ev23
    refine Ops.sg 1 15 ?_
    obtain ⟨v144, ev144, ev23⟩ := bnd_some ev23
    refine Ops.on 16 (fun h0 e0 => (str_ix (T := T) h0 9 a0 0 v144 ev144 (by kernel_rfl))) ?_
    refine Ops.sg 2 18 ?_
    exact Ops.sx (J45j24 (.v (.str a0)) (.v (.int .u8 v144)) (dB (decide (v144 > 122))) false (decide (v144 > 122)) (some_sub (fun v23 => f45_r6 m a0 v23 = some o) ev23 h))
   ·have ev23 := cnd_t ev23
    refine Ops.sg 4 18 ?_
    exact Ops.sx (J45j24 U U U true true (some_sub (fun v23 => f45_r6 m a0 v23 = some o) ev23 h))
  obtain ⟨v15, ev15, h⟩ := bnd_some h
  refine Ops.hv (fun KQ => ∀ v9 : Bool, (cnd v9 (some true) (bnd (sidx a0 0) fun v145 => some (decide (v145 < 97)))) = some v15 → KQ 9 ⟨Zs20 a0 (a0.size : Int) v6 (d3::d4::d5::(dB v9)::(dB v9)::u40 (u1 [])), []⟩) ?_ fun G45g10 => Ops.sx (G45g10 v7 ev15)
  intro v9 ev15
  cases v9
  ·have ev15 := cnd_f ev15
   refine Ops.sg 1 10 ?_
   obtain ⟨v145, ev145, ev15⟩ := bnd_some ev15
   refine Ops.on 11 (fun h0 e0 => (str_ix (T := T) h0 9 a0 0 v145 ev145 (by kernel_rfl))) ?_
   refine Ops.sg 2 13 ?_
   exact Ops.sx (J45j16 (.v (.str a0)) (.v (.int .u8 v145)) (dB (decide (v145 < 97))) false (decide (v145 < 97)) (some_sub (fun v15 => f45_r7 m a0 v15 = some o) ev15 h))
  ·have ev15 := cnd_t ev15
   refine Ops.sg 4 13 ?_
   exact Ops.sx (J45j16 U U U true true (some_sub (fun v15 => f45_r7 m a0 v15 = some o) ev15 h))
 refine Ops.hv (fun KQ => ∀ v1 : Bool, f45_r8 m a0 (v1 || (decide ((a0.size : Int) > 30))) = some o → KQ 4 ⟨Zs20 a0 (a0.size : Int) v1 (u40 (u6 [])), []⟩) ?_ fun G45g2 => Ops.sx (G45g2 ((a0.size : Int) == 0) h)
 intro v1 h
 cases v1
 ·refine Ops.sg 4 8 ?_
  exact Ops.sx (J45j8 (.v (.str a0)) (dI (a0.size : Int)) (dB (decide ((a0.size : Int) > 30))) false (decide ((a0.size : Int) > 30)) h)
 ·refine Ops.sg 4 8 ?_
  exact Ops.sx (J45j8 U U U true true h)
noncomputable def f22_B1 (m : Nat) (a0 : (List ByteArray)) (v6 : Int) : Option (Stp Int (Int)) :=
 cnd (decide (v6 < (a0.length : Int)))
 (bnd (idx a0 v6) fun v16 =>
 bnd (f45 m v16) fun v17 =>
 cnd (!v17)
 (some (.ret 10))
 (some (.nxt (w64 (v6 + 1)))))
 (some (.brk v6))
noncomputable def f22 (m : Nat) (a0 : (List ByteArray)) (a1 : Int) : Option Int :=
 cnd (decide ((a0.length : Int) > a1))
 (some 2)
 (brk (iter (fun (y : Int) => f22_B1 m a0 y) m 0) some fun y19 =>
 some 0)
noncomputable abbrev X22 (n : Nat) : Cx := cxOf Proofs.Tryz.prog E 22 n
noncomputable def C22 : Code := bodyOf Proofs.Tryz.prog 22
theorem ok22 (m : Nat) (a0 : (List ByteArray)) (a1 o : Int) (h : f22 m a0 a1 = some o) (n : Nat) (hn : m + 2 ≤ n) : Fn Proofs.Tryz.prog E n 22 [.v ((eL eS) a0), .v (eI a1)] (eI o) := by
 obtain ⟨n, rfl⟩ : ∃ q, n = q + 1 := ⟨n - 1, by omega⟩
 unfold f22 at h
 refine Fn.of (by kernel_rfl) (by kernel_rfl) (by kernel_rfl) ⟨(dP eS a0)::(dI a1)::u19 [], []⟩ (by kernel_rfl) (Wp.sq (Wp.rg (Ops.sg 1 1 (Ops.dn (seqQ.n (Wp.sq (Wp.sq (Wp.rg (Ops.sg 1 1 ?_)))))))))
 refine Ops.on 2 (fun h0 e0 => (len_r (T := T) h0 22 9 .plain eS a0 (by kernel_rfl))) ?_
 refine Ops.sg 2 4 (Ops.dn (seqQ.n ?_))
 refine Wp.cd h [0, 4] 0 (fun h => ?_) (fun h => ?_)
 ·refine Wp.sq (Wp.rg (Ops.sg 1 1 (Ops.dn (seqQ.n (Wp.rt (sqQ.r (seqQ.r ?_)))))))
  exact fnQ.r' (X22 n) (fun z => (eI z)) h (RetOk.mk' (dI 2) (by kernel_rfl) (by kernel_rfl))
 ·refine Wp.sk (sqQ.n' (seqQ.n (Wp.sq (Wp.sq (Wp.rg (Ops.sg 1 1 ?_))))))
  refine Ops.on 2 (fun h0 e0 => (len_r (T := T) h0 22 9 .plain eS a0 (by kernel_rfl))) ?_
  refine Ops.sg 1 3 (Ops.dn (seqQ.n (Wp.bk 0 [4] 0 ?_)))
  have hLx18 : ∀ (kx8 : Nat) (v6 : Int)  (ox7 : Int ⊕ (Int)), iter (fun (y : Int) => f22_B1 m a0 y) kx8 v6 = some ox7 → ∀ nx9, kx8 ≤ nx9 → (∀ r, ox7 = .inl r → ∀ σ, RetOk (X22 n) (resOf Proofs.Tryz.prog 22) (eI r) σ → (seqQ (X22 n) (cR (cR (cR C22))) (fnQ (X22 n).E.T (resOf Proofs.Tryz.prog 22) (eI o))) .ret σ) → (∀ (y : Int) , ox7 = .inr y → (seqQ (X22 n) (cR (cR (cR C22))) (fnQ (X22 n).E.T (resOf Proofs.Tryz.prog 22) (eI o))) .normal ⟨Zs35 a0 (a0.length : Int) ((dI y)::q7 []), []⟩) → Lp (X22 n) [4, 11, 12, 13] 0 (cL (cL (cR (cL (cR (cR C22)))))) nx9 ⟨Zs35 a0 (a0.length : Int) ((dI v6)::q7 []), []⟩ (blkQ (X22 n) 0 [4] 0 (seqQ (X22 n) (cR (cR (cR C22))) (fnQ (X22 n).E.T (resOf Proofs.Tryz.prog 22) (eI o)))) := by
   intro kx8
   induction kx8 with
   | zero => intro v6  ox7 h; exact (iter_zero h).elim
   | succ kx8 ihx10 =>
    intro v6  ox7 h nx9 hnx13 hrx11 hxx12
    obtain ⟨nx9, rfl⟩ : ∃ q, nx9 = q + 1 := ⟨nx9 - 1, by omega⟩
    obtain ⟨sx14, h, hsx15⟩ := iter_some h
    have h : f22_B1 m a0 v6 = some sx14 := h
    unfold f22_B1 at h
    refine Lp.succ (Wp.sq (Wp.rg (Ops.sg 1 1 (Ops.dn (seqQ.n (Wp.sq ?_))))))
    refine Wp.cd h [4, 11, 12, 13] 0 (fun h => ?_) (fun h => ?_)
    ·refine Wp.sk (sqQ.n' (seqQ.n (Wp.sq (Wp.bk 1 [4, 11, 12, 13] 0 (Wp.sq (Wp.rg ?_))))))
     obtain ⟨v16, ev16, h⟩ := bnd_some h
     refine Ops.on 1 (fun h0 e0 => (ix_r (T := T) h0 22 9 1 .plain eS a0 v6 v16 ev16 (by kernel_rfl) (by kernel_rfl) (fun _ => rfl))) ?_
     refine Ops.sg 2 3 (Ops.dn (seqQ.n (Wp.sq (Wp.rg (Ops.sg 1 1 ?_)))))
     obtain ⟨v17, ev17, h⟩ := bnd_some h
     refine Ops.on 2 (fun h0 e0 => (call_ok (E' := E) (h := h0) (by kernel_rfl) (Args.v (.str v16) (eS v16) (by kernel_rfl) Args.nil) (ok45 m v16 v17 ev17 n (by omega)))) ?_
     refine Ops.sg 1 3 (Ops.dn (seqQ.n ?_))
     refine Wp.cd h [4, 11, 12, 13] 0 (fun h => ?_) (fun h => ?_)
     ·refine Wp.sq (Wp.rg (Ops.sg 1 1 (Ops.dn (seqQ.n (Wp.rt (sqQ.r (blkQ.r (seqQ.r ?_))))))))
      cases h
      refine lpQ.r (blkQ.r ?_)
      exact hrx11 _ hsx15 _ (RetOk.forget [4, 11, 12, 13] (by kernel_rfl) (RetOk.mk' (dI 10) (by kernel_rfl) (by kernel_rfl)))
     ·refine Wp.sk (sqQ.n' (blkQ.n' (seqQ.n (Wp.rg (Ops.sg 2 2 (Ops.dn (lpQ.m ⟨Zs35 a0 (a0.length : Int) ((dI (w64 (v6 + 1)))::q7 []), []⟩ ?_)))))))
      cases h
      exact ihx10 (w64 (v6 + 1))  _ hsx15 _ (by omega) hrx11 hxx12
    ·refine Wp.ex 0 (sqQ.x (seqQ.x ?_))
     cases h
     refine lpQ.x (blkQ.w ⟨Zs35 a0 (a0.length : Int) ((dI v6)::q7 []), []⟩ ?_)
     exact hxx12 v6  hsx15
  refine Wp.loop' [4, 11, 12, 13] 0 (by kernel_rfl) ⟨Zs35 a0 (a0.length : Int) ((dI 0)::q7 []), []⟩ (by kernel_rfl) ?_
  rcases brk_some h with ⟨r20, er20, h⟩ | ⟨y19, ey19, h⟩
  ·refine hLx18 _ 0  _ er20 n (by omega) (fun r er σ hσ => ?_) (fun y  ey => by cases ey)
   cases er
   refine seqQ.r ?_
   exact fnQ.r' (X22 n) (fun z => (eI z)) h hσ
  ·refine hLx18 _ 0  _ ey19 n (by omega) (fun r er => by cases er) (fun y  ey => ?_)
   cases ey
   refine seqQ.n (Wp.sq (Wp.rg (Ops.sg 1 1 (Ops.dn (seqQ.n (Wp.rt ?_))))))
   exact fnQ.r' (X22 n) (fun z => (eI z)) h (RetOk.mk' (dI 0) (by kernel_rfl) (by kernel_rfl))
structure Rec46 where
 r46 : S81 → S51 → Int → Option (Unit × S81)
structure OkRec46 (m : Nat) (K : Rec46) (nn : Nat) : Prop where
 ok46 : ∀ (a0 : S81) (a1 : S51) (a2 : Int) (o : (Unit × S81)), K.r46 a0 a1 a2 = some o → ∀ n, nn ≤ n → FnP Proofs.Tryz.prog E n 46 (c81 a0) [.v (e51 a1), .v (eI a2)] (.tuple []) (c81 o.2)
noncomputable def f46_B1 (m : Nat) (K : Rec46) (a1 : S51) (a2 v22 v23 : Int) (v24 : Bool) : Option (Stp (Unit × S81) (Int × Int × Bool)) :=
 cnd (decide (v22 < (a1.fArgs.length : Int)))
 (bnd (idx a1.fArgs v22) fun v34 =>
 cnd v24
 (some (.ret (((), (⟨v23, v24⟩ : S81)))))
 (bnd (K.r46 ((⟨v23, v24⟩ : S81)) v34.vw (w64 (a2 + 1))) fun v35 =>
 some (.nxt (w64 (v22 + 1), v35.2.fNodes, v35.2.fOver))))
 (some (.brk (v22, v23, v24)))
noncomputable def f46_j2 (m : Nat) (K : Rec46) (a0 : S81) (a1 : S51) (a2 : Int) (v13 : Bool) : Option (Unit × S81) :=
 brk (iter (fun (y : Int × Int × Bool) => f46_B1 m K a1 a2 y.1 y.2.1 y.2.2) m (0, w64 (a0.fNodes + 1), v13)) some fun y37 =>
 some (((), (⟨y37.2.1, y37.2.2⟩ : S81)))
noncomputable def f46_r3 (m : Nat) (K : Rec46) (a0 : S81) (a1 : S51) (a2 : Int) (v6 : Bool) : Option (Unit × S81) :=
 cnd v6
 (f46_j2 m K a0 a1 a2 true)
 (f46_j2 m K a0 a1 a2 a0.fOver)
noncomputable def b46 (m : Nat) (K : Rec46) (a0 : S81) (a1 : S51) (a2 : Int) : Option (Unit × S81) :=
 f46_r3 m K a0 a1 a2 ((decide (w64 (a0.fNodes + 1) > 2000)) || (decide (a2 > 40)))
noncomputable abbrev X46 (n : Nat) : Cx := cxOf Proofs.Tryz.prog E 46 n
noncomputable def C46 : Code := bodyOf Proofs.Tryz.prog 46
noncomputable abbrev b46_0 (w0 : S51) : AObj := .cells [(.v (.str w0.fBase)), (dP ep51 w0.fArgs)]
theorem okb46 (m : Nat) (K : Rec46) (nn : Nat) (hK : OkRec46 m K nn) (a0 : S81) (a1 : S51) (a2 : Int) (o : (Unit × S81)) (h : b46 m K a0 a1 a2 = some o) (n : Nat) (hn : m + 1 ≤ n) (hk : nn + 1 ≤ n) : FnP Proofs.Tryz.prog E n 46 (c81 a0) [.v (e51 a1), .v (eI a2)] (.tuple []) (c81 o.2) := by
 obtain ⟨n, rfl⟩ : ∃ q, n = q + 1 := ⟨n - 1, by omega⟩
 unfold b46 at h
 refine FnP.of (by kernel_rfl) (by kernel_rfl) (by kernel_rfl) ⟨(.ptr 0 0)::(.v (.agg [(.str a1.fBase), (vP ep51 a1.fArgs)]))::(dI a2)::u40 (u1 []), [(.cells [(dI a0.fNodes), (dB a0.fOver)])]⟩ (by kernel_rfl) (Wp.sq (Wp.rg (Ops.sg 1 1 (Ops.dn (seqQ.n (Wp.sq (Wp.rg (Ops.sg 8 8 (Ops.dn (seqQ.n (Wp.sq (Wp.sq (Wp.rg (Ops.sg 6 6 ?_))))))))))))))
 refine Ops.hv (fun KQ => ∀ (d3 d4 : D) (v5 v6 : Bool), f46_r3 m K a0 a1 a2 v6 = some o → KQ 9 ⟨Zs2 (.v (.agg [(.str a1.fBase), (vP ep51 a1.fArgs)])) a2 a0.fNodes (w64 (a0.fNodes + 1)) v5 (d3::d4::(dB v6)::u20 []), [(.cells [(dI (w64 (a0.fNodes + 1))), (dB a0.fOver)]), (b46_0 a1)]⟩) ?_ fun J46j7 => ?_
 ·intro d3 d4 v5 v6 h
  unfold f46_r3 at h
  refine Ops.dn (seqQ.n ?_)
  have J46j14 : ∀ (v13 : Bool) (d8 d9 d10 d11 d12 : D), f46_j2 m K a0 a1 a2 v13 = some o → (seqQ (X46 n) (cR (cR (cR C46))) (fnQP (X46 n).E.T (resOf Proofs.Tryz.prog 46) (.tuple []) (c81 o.2))) .normal ⟨Zs2 (.v (.agg [(.str a1.fBase), (vP ep51 a1.fArgs)])) a2 a0.fNodes (w64 (a0.fNodes + 1)) v5 (d8::d9::(dB v6)::d10::d11::d12::u17 []), [(.cells [(dI (w64 (a0.fNodes + 1))), (dB v13)]), (b46_0 a1)]⟩ := by
   intro v13 d8 d9 d10 d11 d12 h
   unfold f46_j2 at h
   refine seqQ.n (Wp.sq (Wp.rg (Ops.sg 2 2 ?_)))
   refine Ops.on 3 (fun h0 e0 => (len_r (T := T) h0 50 52 .plain ep51 a1.fArgs (by kernel_rfl))) ?_
   refine Ops.sg 1 4 (Ops.dn (seqQ.n (Wp.bk 0 [] 2 ?_)))
   have hLx36 : ∀ (kx26 : Nat) (v22 v23 : Int) (v24 : Bool)  (ox25 : (Unit × S81) ⊕ (Int × Int × Bool)), iter (fun (y : Int × Int × Bool) => f46_B1 m K a1 a2 y.1 y.2.1 y.2.2) kx26 (v22, v23, v24) = some ox25 → ∀ nx27, kx26 ≤ nx27 → (∀ r, ox25 = .inl r → ∀ σ, RetOkP (X46 n) (resOf Proofs.Tryz.prog 46) (.tuple []) (c81 r.2) σ → (fnQP (X46 n).E.T (resOf Proofs.Tryz.prog 46) (.tuple []) (c81 o.2)) .ret σ) → (∀ (y : Int × Int × Bool) , ox25 = .inr y → (fnQP (X46 n).E.T (resOf Proofs.Tryz.prog 46) (.tuple []) (c81 o.2)) .normal ⟨Zs23 a2 (q25 ((dP ep51 a1.fArgs)::(dI (a1.fArgs.length : Int))::(dI y.1)::q13 [])), [(.cells [(dI y.2.1), (dB y.2.2)]), (b46_0 a1)]⟩) → Lp (X46 n) [0, 2, 28, 29, 30] 2 (cL (cL (cR (cR (cR (cR C46)))))) nx27 ⟨Zs23 a2 (q25 ((dP ep51 a1.fArgs)::(dI (a1.fArgs.length : Int))::(dI v22)::q13 [])), [(.cells [(dI v23), (dB v24)]), (b46_0 a1)]⟩ (blkQ (X46 n) 0 [] 2 (fnQP (X46 n).E.T (resOf Proofs.Tryz.prog 46) (.tuple []) (c81 o.2))) := by
    intro kx26
    induction kx26 with
    | zero => intro v22 v23 v24  ox25 h; exact (iter_zero h).elim
    | succ kx26 ihx28 =>
     intro v22 v23 v24  ox25 h nx27 hnx31 hrx29 hxx30
     obtain ⟨nx27, rfl⟩ : ∃ q, nx27 = q + 1 := ⟨nx27 - 1, by omega⟩
     obtain ⟨sx32, h, hsx33⟩ := iter_some h
     have h : f46_B1 m K a1 a2 v22 v23 v24 = some sx32 := h
     unfold f46_B1 at h
     refine Lp.succ (Wp.sq (Wp.rg (Ops.sg 1 1 (Ops.dn (seqQ.n (Wp.sq ?_))))))
     refine Wp.cd h [0, 2, 28, 29, 30] 2 (fun h => ?_) (fun h => ?_)
     ·refine Wp.sk (sqQ.n' (seqQ.n (Wp.sq (Wp.bk 1 [0, 2, 28, 29, 30] 2 (Wp.sq (Wp.rg ?_))))))
      obtain ⟨v34, ev34, h⟩ := bnd_some h
      refine Ops.on 1 (fun h0 e0 => (ixb51 (ix_r (T := T) h0 50 52 2 .plain ep51 a1.fArgs v22 v34 ev34 (by kernel_rfl) (by kernel_rfl) ep51_len))) ?_
      refine Ops.sg 3 4 (Ops.dn (seqQ.n (Wp.sq (Wp.sq (Wp.rg (Ops.sg 4 4 (Ops.dn (seqQ.n ?_))))))))
      refine Wp.cd h [0, 2, 7, 28, 29, 30] 3 (fun h => ?_) (fun h => ?_)
      ·refine Wp.rt (sqQ.r (seqQ.r (blkQ.r (seqQ.r ?_))))
       cases h
       refine lpQ.r (blkQ.r ?_)
       exact hrx29 _ hsx33 _ (RetOkP.forget [0, 2, 28, 29, 30] (by kernel_rfl) (RetOkP.mk' U (by kernel_rfl) (by kernel_rfl) (by kernel_rfl) (by kernel_rfl)))
      ·refine Wp.sk (sqQ.n' (seqQ.n (Wp.rg (Ops.sg 4 4 ?_))))
       obtain ⟨v35, ev35, h⟩ := bnd_some h
       refine Ops.on 5 (fun h0 e0 => (call_ptr (E' := E) (h := h0) (q := 0) (cs := c81 ((⟨v23, v24⟩ : S81))) (by kernel_rfl) (by kernel_rfl) (by kernel_rfl) (hq_of e0 (by kernel_rfl)) (by kernel_rfl) (Args.v (.agg [(.str v34.vw.fBase), (vP ep51 v34.vw.fArgs)]) (e51 v34.vw) (by kernel_rfl) (Args.v (vI (w64 (a2 + 1))) (eI (w64 (a2 + 1))) (by kernel_rfl) Args.nil)) (hK.ok46 ((⟨v23, v24⟩ : S81)) v34.vw (w64 (a2 + 1)) v35 ev35 n (by omega)))) ?_
       refine Ops.dn (blkQ.n' (seqQ.n (Wp.rg (Ops.sg 2 2 (Ops.dn (lpQ.m ⟨Zs23 a2 (q25 ((dP ep51 a1.fArgs)::(dI (a1.fArgs.length : Int))::(dI (w64 (v22 + 1)))::q13 [])), [(.cells [(dI v35.2.fNodes), (dB v35.2.fOver)]), (b46_0 a1)]⟩ ?_))))))
       cases h
       exact ihx28 (w64 (v22 + 1)) v35.2.fNodes v35.2.fOver  _ hsx33 _ (by omega) hrx29 hxx30
     ·refine Wp.ex 0 (sqQ.x (seqQ.x ?_))
      cases h
      refine lpQ.x (blkQ.w ⟨Zs23 a2 (q25 ((dP ep51 a1.fArgs)::(dI (a1.fArgs.length : Int))::(dI v22)::q13 [])), [(.cells [(dI v23), (dB v24)]), (b46_0 a1)]⟩ ?_)
      exact hxx30 (v22, v23, v24)  hsx33
   refine Wp.loop' [0, 2, 28, 29, 30] 2 (by kernel_rfl) ⟨Zs23 a2 (q25 ((dP ep51 a1.fArgs)::(dI (a1.fArgs.length : Int))::(dI 0)::q13 [])), [(.cells [(dI (w64 (a0.fNodes + 1))), (dB v13)]), (b46_0 a1)]⟩ (by kernel_rfl) ?_
   rcases brk_some h with ⟨r38, er38, h⟩ | ⟨y37, ey37, h⟩
   ·refine hLx36 _ 0 (w64 (a0.fNodes + 1)) v13  _ er38 n (by omega) (fun r er σ hσ => ?_) (fun y  ey => by cases ey)
    cases er
    exact fnQP.r' (X46 n) (fun z => (.tuple [])) c81 h hσ
   ·refine hLx36 _ 0 (w64 (a0.fNodes + 1)) v13  _ ey37 n (by omega) (fun r er => by cases er) (fun y  ey => ?_)
    cases ey
    exact fnQP.n' (X46 n) (fun z => (.tuple [])) c81 h (RetOkP.mk' U (by kernel_rfl) (by kernel_rfl) (by kernel_rfl) (by kernel_rfl))
  refine Wp.cd h [0, 2, 4] 2 (fun h => ?_) (fun h => ?_)
  ·refine Wp.rg (Ops.sg 4 4 (Ops.dn (sqQ.m ⟨Zs2 (.v (.agg [(.str a1.fBase), (vP ep51 a1.fArgs)])) a2 a0.fNodes (w64 (a0.fNodes + 1)) v5 (d3::d4::(dB v6)::(.ptr 0 0)::(.ptr 0 0)::(.ptr 0 1)::u17 []), [(.cells [(dI (w64 (a0.fNodes + 1))), (dB true)]), (b46_0 a1)]⟩ ?_)))
   exact J46j14 true _ _ _ _ _ h
  ·refine Wp.sk (sqQ.m ⟨Zs2 (.v (.agg [(.str a1.fBase), (vP ep51 a1.fArgs)])) a2 a0.fNodes (w64 (a0.fNodes + 1)) v5 (d3::d4::(dB v6)::u20 []), [(.cells [(dI (w64 (a0.fNodes + 1))), (dB a0.fOver)]), (b46_0 a1)]⟩ ?_)
   exact J46j14 a0.fOver _ _ _ _ _ h
 refine Ops.hv (fun KQ => ∀ v1 : Bool, f46_r3 m K a0 a1 a2 (v1 || (decide (a2 > 40))) = some o → KQ 6 ⟨Zs2 (.v (.agg [(.str a1.fBase), (vP ep51 a1.fArgs)])) a2 a0.fNodes (w64 (a0.fNodes + 1)) v1 (u23 []), [(.cells [(dI (w64 (a0.fNodes + 1))), (dB a0.fOver)]), (b46_0 a1)]⟩) ?_ fun G46g2 => Ops.sx (G46g2 (decide (w64 (a0.fNodes + 1) > 2000)) h)
 intro v1 h
 cases v1
 ·refine Ops.sg 3 9 ?_
  exact Ops.sx (J46j7 (dI a2) (dB (decide (a2 > 40))) false (decide (a2 > 40)) h)
 ·refine Ops.sg 3 9 ?_
  exact Ops.sx (J46j7 U U true true h)
noncomputable def K46 (m : Nat) : Nat → Rec46
 | 0 => ⟨fun _ _ _ => none⟩
 | r + 1 => ⟨fun a0 a1 a2 => b46 m (K46 m r) a0 a1 a2⟩
theorem okK46 (m : Nat) : ∀ r, OkRec46 m (K46 m r) (m + 1 + r)
 | 0 => ⟨fun _ _ _ o h => (by cases h)⟩
 | r + 1 => ⟨fun a0 a1 a2 o h n hn => okb46 m (K46 m r) (m + 1 + r) (okK46 m r) a0 a1 a2 o h n (by omega) (by omega)⟩
noncomputable def f46 (m : Nat) (a0 : S81) (a1 : S51) (a2 : Int) : Option (Unit × S81) := (K46 m m).r46 a0 a1 a2
theorem ok46 (m : Nat) (a0 : S81) (a1 : S51) (a2 : Int) (o : (Unit × S81)) (h : f46 m a0 a1 a2 = some o) (n : Nat) (hn : 2 * m + 1 ≤ n) : FnP Proofs.Tryz.prog E n 46 (c81 a0) [.v (e51 a1), .v (eI a2)] (.tuple []) (c81 o.2) := (okK46 m m).ok46 a0 a1 a2 o h n (by omega)
structure Rec23 where
 r23 : S81 → S54 → Int → Option (Unit × S81)
structure OkRec23 (m : Nat) (K : Rec23) (nn : Nat) : Prop where
 ok23 : ∀ (a0 : S81) (a1 : S54) (a2 : Int) (o : (Unit × S81)), K.r23 a0 a1 a2 = some o → ∀ n, nn ≤ n → FnP Proofs.Tryz.prog E n 23 (c81 a0) [.v (e54 a1), .v (eI a2)] (.tuple []) (c81 o.2)
noncomputable def f23_B1 (m : Nat) (K : Rec23) (a1 : S54) (a2 v16 v17 : Int) (v18 : Bool) : Option (Stp (Unit × S81) (Int × Int × Bool)) :=
 cnd (decide (v16 < (a1.fArgs.length : Int)))
 (bnd (idx a1.fArgs v16) fun v28 =>
 cnd v18
 (some (.ret (((), (⟨v17, v18⟩ : S81)))))
 (bnd (K.r23 ((⟨v17, v18⟩ : S81)) v28.vw (w64 (a2 + 1))) fun v29 =>
 some (.nxt (w64 (v16 + 1), v29.2.fNodes, v29.2.fOver))))
 (some (.brk (v16, v17, v18)))
noncomputable def f23_r2 (m : Nat) (K : Rec23) (a0 : S81) (a1 : S54) (a2 : Int) (v6 : Bool) : Option (Unit × S81) :=
 cnd v6
 (some (((), (⟨w64 (a0.fNodes + 1), true⟩ : S81))))
 (bnd (f46 m ((⟨w64 (a0.fNodes + 1), a0.fOver⟩ : S81)) a1.fType a2) fun v8 =>
 brk (iter (fun (y : Int × Int × Bool) => f23_B1 m K a1 a2 y.1 y.2.1 y.2.2) m (0, v8.2.fNodes, v8.2.fOver)) some fun y31 =>
 some (((), (⟨y31.2.1, y31.2.2⟩ : S81))))
noncomputable def b23 (m : Nat) (K : Rec23) (a0 : S81) (a1 : S54) (a2 : Int) : Option (Unit × S81) :=
 f23_r2 m K a0 a1 a2 ((decide (w64 (a0.fNodes + 1) > 2000)) || (decide (a2 > 40)))
noncomputable abbrev X23 (n : Nat) : Cx := cxOf Proofs.Tryz.prog E 23 n
noncomputable def C23 : Code := bodyOf Proofs.Tryz.prog 23
noncomputable abbrev b23_0 (w0 : S54) : AObj := .cells [(dI w0.fKind), (.v (.str w0.fName)), (dI w0.fIndex), (.v (.str w0.fType.fBase)), (dP ep51 w0.fType.fArgs), (dP ep54 w0.fArgs)]
theorem okb23 (m : Nat) (K : Rec23) (nn : Nat) (hK : OkRec23 m K nn) (a0 : S81) (a1 : S54) (a2 : Int) (o : (Unit × S81)) (h : b23 m K a0 a1 a2 = some o) (n : Nat) (hn : 2 * m + 2 ≤ n) (hk : nn + 1 ≤ n) : FnP Proofs.Tryz.prog E n 23 (c81 a0) [.v (e54 a1), .v (eI a2)] (.tuple []) (c81 o.2) := by
 obtain ⟨n, rfl⟩ : ∃ q, n = q + 1 := ⟨n - 1, by omega⟩
 unfold b23 at h
 refine FnP.of (by kernel_rfl) (by kernel_rfl) (by kernel_rfl) ⟨(.ptr 0 0)::(.v (.agg [(vI a1.fKind), (.str a1.fName), (vI a1.fIndex), (.str a1.fType.fBase), (vP ep51 a1.fType.fArgs), (vP ep54 a1.fArgs)]))::(dI a2)::u40 (u6 []), [(.cells [(dI a0.fNodes), (dB a0.fOver)])]⟩ (by kernel_rfl) (Wp.sq (Wp.rg (Ops.sg 1 1 (Ops.dn (seqQ.n (Wp.sq (Wp.rg (Ops.sg 8 8 (Ops.dn (seqQ.n (Wp.sq (Wp.sq (Wp.rg (Ops.sg 6 6 ?_))))))))))))))
 refine Ops.hv (fun KQ => ∀ (d3 d4 : D) (v5 v6 : Bool), f23_r2 m K a0 a1 a2 v6 = some o → KQ 9 ⟨Zs2 (.v (.agg [(vI a1.fKind), (.str a1.fName), (vI a1.fIndex), (.str a1.fType.fBase), (vP ep51 a1.fType.fArgs), (vP ep54 a1.fArgs)])) a2 a0.fNodes (w64 (a0.fNodes + 1)) v5 (d3::d4::(dB v6)::u25 []), [(.cells [(dI (w64 (a0.fNodes + 1))), (dB a0.fOver)]), (b23_0 a1)]⟩) ?_ fun J23j7 => ?_
 ·intro d3 d4 v5 v6 h
  unfold f23_r2 at h
  refine Ops.dn (seqQ.n ?_)
  refine Wp.cd h [0, 2, 4] 2 (fun h => ?_) (fun h => ?_)
  ·refine Wp.sq (Wp.rg (Ops.sg 4 4 (Ops.dn (seqQ.n (Wp.rt (sqQ.r (seqQ.r ?_)))))))
   exact fnQP.r' (X23 n) (fun z => (.tuple [])) c81 h (RetOkP.mk' U (by kernel_rfl) (by kernel_rfl) (by kernel_rfl) (by kernel_rfl))
  ·refine Wp.sk (sqQ.n' (seqQ.n (Wp.sq (Wp.rg (Ops.sg 4 4 ?_)))))
   obtain ⟨v8, ev8, h⟩ := bnd_some h
   refine Ops.on 5 (fun h0 e0 => (call_ptr (E' := E) (h := h0) (q := 0) (cs := c81 ((⟨w64 (a0.fNodes + 1), a0.fOver⟩ : S81))) (by kernel_rfl) (by kernel_rfl) (by kernel_rfl) (hq_of e0 (by kernel_rfl)) (by kernel_rfl) (Args.v (.agg [(.str a1.fType.fBase), (vP ep51 a1.fType.fArgs)]) (e51 a1.fType) (by kernel_rfl) (Args.v (vI a2) (eI a2) (by kernel_rfl) Args.nil)) (ok46 m ((⟨w64 (a0.fNodes + 1), a0.fOver⟩ : S81)) a1.fType a2 v8 ev8 n (by omega)))) ?_
   refine Ops.dn (seqQ.n (Wp.sq (Wp.rg (Ops.sg 2 2 ?_))))
   refine Ops.on 3 (fun h0 e0 => (len_r (T := T) h0 53 55 .plain ep54 a1.fArgs (by kernel_rfl))) ?_
   refine Ops.sg 1 4 (Ops.dn (seqQ.n (Wp.bk 0 [] 2 ?_)))
   have hLx30 : ∀ (kx20 : Nat) (v16 v17 : Int) (v18 : Bool)  (ox19 : (Unit × S81) ⊕ (Int × Int × Bool)), iter (fun (y : Int × Int × Bool) => f23_B1 m K a1 a2 y.1 y.2.1 y.2.2) kx20 (v16, v17, v18) = some ox19 → ∀ nx21, kx20 ≤ nx21 → (∀ r, ox19 = .inl r → ∀ σ, RetOkP (X23 n) (resOf Proofs.Tryz.prog 23) (.tuple []) (c81 r.2) σ → (fnQP (X23 n).E.T (resOf Proofs.Tryz.prog 23) (.tuple []) (c81 o.2)) .ret σ) → (∀ (y : Int × Int × Bool) , ox19 = .inr y → (fnQP (X23 n).E.T (resOf Proofs.Tryz.prog 23) (.tuple []) (c81 o.2)) .normal ⟨Zs23 a2 (q30 ((dP ep54 a1.fArgs)::(dI (a1.fArgs.length : Int))::(dI y.1)::q13 [])), [(.cells [(dI y.2.1), (dB y.2.2)]), (b23_0 a1)]⟩) → Lp (X23 n) [0, 2, 33, 34, 35] 2 (cL (cL (cR (cR (cR (cR (cR C23))))))) nx21 ⟨Zs23 a2 (q30 ((dP ep54 a1.fArgs)::(dI (a1.fArgs.length : Int))::(dI v16)::q13 [])), [(.cells [(dI v17), (dB v18)]), (b23_0 a1)]⟩ (blkQ (X23 n) 0 [] 2 (fnQP (X23 n).E.T (resOf Proofs.Tryz.prog 23) (.tuple []) (c81 o.2))) := by
    intro kx20
    induction kx20 with
    | zero => intro v16 v17 v18  ox19 h; exact (iter_zero h).elim
    | succ kx20 ihx22 =>
     intro v16 v17 v18  ox19 h nx21 hnx25 hrx23 hxx24
     obtain ⟨nx21, rfl⟩ : ∃ q, nx21 = q + 1 := ⟨nx21 - 1, by omega⟩
     obtain ⟨sx26, h, hsx27⟩ := iter_some h
     have h : f23_B1 m K a1 a2 v16 v17 v18 = some sx26 := h
     unfold f23_B1 at h
     refine Lp.succ (Wp.sq (Wp.rg (Ops.sg 1 1 (Ops.dn (seqQ.n (Wp.sq ?_))))))
     refine Wp.cd h [0, 2, 33, 34, 35] 2 (fun h => ?_) (fun h => ?_)
     ·refine Wp.sk (sqQ.n' (seqQ.n (Wp.sq (Wp.bk 1 [0, 2, 33, 34, 35] 2 (Wp.sq (Wp.rg ?_))))))
      obtain ⟨v28, ev28, h⟩ := bnd_some h
      refine Ops.on 1 (fun h0 e0 => (ixb54 (ix_r (T := T) h0 53 55 6 .plain ep54 a1.fArgs v16 v28 ev28 (by kernel_rfl) (by kernel_rfl) ep54_len))) ?_
      refine Ops.sg 3 4 (Ops.dn (seqQ.n (Wp.sq (Wp.sq (Wp.rg (Ops.sg 4 4 (Ops.dn (seqQ.n ?_))))))))
      refine Wp.cd h [0, 2, 7, 33, 34, 35] 3 (fun h => ?_) (fun h => ?_)
      ·refine Wp.rt (sqQ.r (seqQ.r (blkQ.r (seqQ.r ?_))))
       cases h
       refine lpQ.r (blkQ.r ?_)
       exact hrx23 _ hsx27 _ (RetOkP.forget [0, 2, 33, 34, 35] (by kernel_rfl) (RetOkP.mk' U (by kernel_rfl) (by kernel_rfl) (by kernel_rfl) (by kernel_rfl)))
      ·refine Wp.sk (sqQ.n' (seqQ.n (Wp.rg (Ops.sg 4 4 ?_))))
       obtain ⟨v29, ev29, h⟩ := bnd_some h
       refine Ops.on 5 (fun h0 e0 => (call_ptr (E' := E) (h := h0) (q := 0) (cs := c81 ((⟨v17, v18⟩ : S81))) (by kernel_rfl) (by kernel_rfl) (by kernel_rfl) (hq_of e0 (by kernel_rfl)) (by kernel_rfl) (Args.v (.agg [(vI v28.vw.fKind), (.str v28.vw.fName), (vI v28.vw.fIndex), (.str v28.vw.fType.fBase), (vP ep51 v28.vw.fType.fArgs), (vP ep54 v28.vw.fArgs)]) (e54 v28.vw) (by kernel_rfl) (Args.v (vI (w64 (a2 + 1))) (eI (w64 (a2 + 1))) (by kernel_rfl) Args.nil)) (hK.ok23 ((⟨v17, v18⟩ : S81)) v28.vw (w64 (a2 + 1)) v29 ev29 n (by omega)))) ?_
       refine Ops.dn (blkQ.n' (seqQ.n (Wp.rg (Ops.sg 2 2 (Ops.dn (lpQ.m ⟨Zs23 a2 (q30 ((dP ep54 a1.fArgs)::(dI (a1.fArgs.length : Int))::(dI (w64 (v16 + 1)))::q13 [])), [(.cells [(dI v29.2.fNodes), (dB v29.2.fOver)]), (b23_0 a1)]⟩ ?_))))))
       cases h
       exact ihx22 (w64 (v16 + 1)) v29.2.fNodes v29.2.fOver  _ hsx27 _ (by omega) hrx23 hxx24
     ·refine Wp.ex 0 (sqQ.x (seqQ.x ?_))
      cases h
      refine lpQ.x (blkQ.w ⟨Zs23 a2 (q30 ((dP ep54 a1.fArgs)::(dI (a1.fArgs.length : Int))::(dI v16)::q13 [])), [(.cells [(dI v17), (dB v18)]), (b23_0 a1)]⟩ ?_)
      exact hxx24 (v16, v17, v18)  hsx27
   refine Wp.loop' [0, 2, 33, 34, 35] 2 (by kernel_rfl) ⟨Zs23 a2 (q30 ((dP ep54 a1.fArgs)::(dI (a1.fArgs.length : Int))::(dI 0)::q13 [])), [(.cells [(dI v8.2.fNodes), (dB v8.2.fOver)]), (b23_0 a1)]⟩ (by kernel_rfl) ?_
   rcases brk_some h with ⟨r32, er32, h⟩ | ⟨y31, ey31, h⟩
   ·refine hLx30 _ 0 v8.2.fNodes v8.2.fOver  _ er32 n (by omega) (fun r er σ hσ => ?_) (fun y  ey => by cases ey)
    cases er
    exact fnQP.r' (X23 n) (fun z => (.tuple [])) c81 h hσ
   ·refine hLx30 _ 0 v8.2.fNodes v8.2.fOver  _ ey31 n (by omega) (fun r er => by cases er) (fun y  ey => ?_)
    cases ey
    exact fnQP.n' (X23 n) (fun z => (.tuple [])) c81 h (RetOkP.mk' U (by kernel_rfl) (by kernel_rfl) (by kernel_rfl) (by kernel_rfl))
 refine Ops.hv (fun KQ => ∀ v1 : Bool, f23_r2 m K a0 a1 a2 (v1 || (decide (a2 > 40))) = some o → KQ 6 ⟨Zs2 (.v (.agg [(vI a1.fKind), (.str a1.fName), (vI a1.fIndex), (.str a1.fType.fBase), (vP ep51 a1.fType.fArgs), (vP ep54 a1.fArgs)])) a2 a0.fNodes (w64 (a0.fNodes + 1)) v1 (u28 []), [(.cells [(dI (w64 (a0.fNodes + 1))), (dB a0.fOver)]), (b23_0 a1)]⟩) ?_ fun G23g2 => Ops.sx (G23g2 (decide (w64 (a0.fNodes + 1) > 2000)) h)
 intro v1 h
 cases v1
 ·refine Ops.sg 3 9 ?_
  exact Ops.sx (J23j7 (dI a2) (dB (decide (a2 > 40))) false (decide (a2 > 40)) h)
 ·refine Ops.sg 3 9 ?_
  exact Ops.sx (J23j7 U U true true h)
noncomputable def K23 (m : Nat) : Nat → Rec23
 | 0 => ⟨fun _ _ _ => none⟩
 | r + 1 => ⟨fun a0 a1 a2 => b23 m (K23 m r) a0 a1 a2⟩
theorem okK23 (m : Nat) : ∀ r, OkRec23 m (K23 m r) (2 * m + 2 + r)
 | 0 => ⟨fun _ _ _ o h => (by cases h)⟩
 | r + 1 => ⟨fun a0 a1 a2 o h n hn => okb23 m (K23 m r) (2 * m + 2 + r) (okK23 m r) a0 a1 a2 o h n (by omega) (by omega)⟩
noncomputable def f23 (m : Nat) (a0 : S81) (a1 : S54) (a2 : Int) : Option (Unit × S81) := (K23 m m).r23 a0 a1 a2
theorem ok23 (m : Nat) (a0 : S81) (a1 : S54) (a2 : Int) (o : (Unit × S81)) (h : f23 m a0 a1 a2 = some o) (n : Nat) (hn : 3 * m + 2 ≤ n) : FnP Proofs.Tryz.prog E n 23 (c81 a0) [.v (e54 a1), .v (eI a2)] (.tuple []) (c81 o.2) := (okK23 m m).ok23 a0 a1 a2 o h n (by omega)
noncomputable def f7_r1 (m : Nat) (v105 : S56) (v126 : Bool) (v127 : Int) (v142 : Bool) : Option (Stp S26 (Bool × Int)) :=
 cnd v142
 (bnd (idx v105.fGraph.fNodes v127) fun v144 =>
 some (.nxt (decide ((v144.fLinks.length : Int) > 40), w64 (v127 + 1))))
 (some (.brk (v126, v127)))
noncomputable def f7_B2 (m : Nat) (v105 : S56) (v126 : Bool) (v127 : Int) : Option (Stp S26 (Bool × Int)) :=
 f7_r1 m v105 v126 v127 ((decide (v127 < (v105.fGraph.fNodes.length : Int))) && (!v126))
noncomputable def f7_B3 (m : Nat) (a0 : (List S56)) (v95 : Int) : Option (Stp S26 (Int)) :=
 cnd (decide (v95 < (a0.length : Int)))
 (bnd (idx a0 v95) fun v105 =>
 bnd (f22 m v105.fTags 4) fun v106 =>
 cnd (v106 != 0)
 (bnd (f21 m v106 v95) fun v107 =>
 some (.ret v107))
 (brk (iter (fun (y : Bool × Int) => f7_B2 m v105 y.1 y.2) m (decide ((v105.fGraph.fNodes.length : Int) > 60), 0)) (fun r => some (.ret r)) fun y146 =>
 cnd y146.1
 (bnd (f21 m 2 v95) fun v148 =>
 some (.ret v148))
 (bnd (f23 m ((⟨0, false⟩ : S81)) v105.fMeaning 1) fun v149 =>
 cnd v149.2.fOver
 (bnd (f21 m 2 v95) fun v150 =>
 some (.ret v150))
 (some (.nxt (w64 (v95 + 1)))))))
 (some (.brk v95))
noncomputable def f7 (m : Nat) (a0 : (List S56)) : Option S26 :=
 cnd (decide ((a0.length : Int) > 40))
 (bnd (f21 m 2 (-3)) fun v1 =>
 some v1)
 (brk (iter (fun (y : Int) => f7_B3 m a0 y) m 0) some fun y152 =>
 some ((⟨0, 0⟩ : S26)))
noncomputable abbrev X7 (n : Nat) : Cx := cxOf Proofs.Tryz.prog E 7 n
noncomputable def C7 : Code := bodyOf Proofs.Tryz.prog 7
noncomputable abbrev p7_0 : Code := cL (cL (cR (cL (cR (cR C7)))))
noncomputable abbrev p7_1 : Code := cR (cR (cR p7_0))
noncomputable abbrev p7_2 : Code := cR (cR (cR (cR (cL (cL (cR (cR p7_0)))))))
noncomputable abbrev b7_0 : AObj := .cells [(dI 0), (dI 0)]
noncomputable abbrev b7_1 (w0 : S56) : AObj := .cells [(dP eS w0.fTags), (dP e61 w0.fGraph.fNodes), (dI w0.fMeaning.fKind), (.v (.str w0.fMeaning.fName)), (dI w0.fMeaning.fIndex), (.v (.str w0.fMeaning.fType.fBase)), (dP ep51 w0.fMeaning.fType.fArgs), (dP ep54 w0.fMeaning.fArgs)]
noncomputable abbrev k7_0 : List Nat := [2, 13, 14, 15]
theorem ok7 (m : Nat) (a0 : (List S56)) (o : S26) (h : f7 m a0 = some o) (n : Nat) (hn : 3 * m + 3 ≤ n) : Fn Proofs.Tryz.prog E n 7 [.v ((eL e56) a0)] (e26 o) := by
 obtain ⟨n, rfl⟩ : ∃ q, n = q + 1 := ⟨n - 1, by omega⟩
 unfold f7 at h
 refine Fn.of (by kernel_rfl) (by kernel_rfl) (by kernel_rfl) ⟨(dP e56 a0)::u40 (u30 []), []⟩ (by kernel_rfl) (Wp.sq (Wp.rg (Ops.sg 1 1 (Ops.dn (seqQ.n (Wp.sq (Wp.sq (Wp.rg (Ops.sg 1 1 ?_)))))))))
 refine Ops.on 2 (fun h0 e0 => (len_r (T := T) h0 23 57 .plain e56 a0 (by kernel_rfl))) ?_
 refine Ops.sg 1 3 (Ops.dn (seqQ.n ?_))
 refine Wp.cd h [0, 2] 1 (fun h => ?_) (fun h => ?_)
 ·refine Wp.sq (Wp.rg ?_)
  obtain ⟨v1, ev1, h⟩ := bnd_some h
  refine Ops.on 1 (fun h0 e0 => (call_ok (E' := E) (h := h0) (by kernel_rfl) (Args.v (vI 2) (eI 2) (by kernel_rfl) (Args.v (vI (-3)) (eI (-3)) (by kernel_rfl) Args.nil)) (ok21 m 2 (-3) v1 ev1 n (by omega)))) ?_
  refine Ops.sg 1 2 (Ops.dn (seqQ.n (Wp.rt (sqQ.r (seqQ.r ?_)))))
  exact fnQ.r' (X7 n) (fun z => (e26 z)) h (RetOk.mk' (.v (.agg [(vI v1.fCode), (vI v1.fIndex)])) (by kernel_rfl) (by kernel_rfl))
 ·refine Wp.sk (sqQ.n' (seqQ.n (Wp.sq (Wp.sq (Wp.rg (Ops.sg 1 1 ?_))))))
  refine Ops.on 2 (fun h0 e0 => (len_r (T := T) h0 23 57 .plain e56 a0 (by kernel_rfl))) ?_
  refine Ops.sg 1 3 (Ops.dn (seqQ.n (Wp.bk 0 [2] 1 ?_)))
  have hLx151 : ∀ (kx97 : Nat) (v95 : Int)  (ox96 : S26 ⊕ (Int)), iter (fun (y : Int) => f7_B3 m a0 y) kx97 v95 = some ox96 → ∀ nx98, kx97 ≤ nx98 → (∀ r, ox96 = .inl r → ∀ σ, RetOk (X7 n) (resOf Proofs.Tryz.prog 7) (e26 r) σ → (seqQ (X7 n) (cR (cR (cR C7))) (fnQ (X7 n).E.T (resOf Proofs.Tryz.prog 7) (e26 o))) .ret σ) → (∀ (y : Int) , ox96 = .inr y → (seqQ (X7 n) (cR (cR (cR C7))) (fnQ (X7 n).E.T (resOf Proofs.Tryz.prog 7) (e26 o))) .normal ⟨Zs30 a0 (a0.length : Int) y [], [b7_0]⟩) → Lp (X7 n) k7_0 1 p7_0 nx98 ⟨Zs30 a0 (a0.length : Int) v95 [], [b7_0]⟩ (blkQ (X7 n) 0 [2] 1 (seqQ (X7 n) (cR (cR (cR C7))) (fnQ (X7 n).E.T (resOf Proofs.Tryz.prog 7) (e26 o)))) := by
   intro kx97
   induction kx97 with
   | zero => intro v95  ox96 h; exact (iter_zero h).elim
   | succ kx97 ihx99 =>
    intro v95  ox96 h nx98 hnx102 hrx100 hxx101
    obtain ⟨nx98, rfl⟩ : ∃ q, nx98 = q + 1 := ⟨nx98 - 1, by omega⟩
    obtain ⟨sx103, h, hsx104⟩ := iter_some h
    have h : f7_B3 m a0 v95 = some sx103 := h
    unfold f7_B3 at h
    refine Lp.succ (Wp.sq (Wp.rg (Ops.sg 1 1 (Ops.dn (seqQ.n (Wp.sq ?_))))))
    refine Wp.cd h k7_0 1 (fun h => ?_) (fun h => ?_)
    ·refine Wp.sk (sqQ.n' (seqQ.n (Wp.sq (Wp.bk 1 k7_0 1 (Wp.sq (Wp.rg (Ops.sg 1 1 ?_)))))))
     obtain ⟨v105, ev105, h⟩ := bnd_some h
     refine Ops.on 2 (fun h0 e0 => (ix_r (T := T) h0 23 57 8 .plain e56 a0 v95 v105 ev105 (by kernel_rfl) (by kernel_rfl) (fun _ => rfl))) ?_
     refine Ops.sg 4 6 (Ops.dn (seqQ.n (Wp.sq (Wp.sq (Wp.rg (Ops.sg 2 2 ?_))))))
     obtain ⟨v106, ev106, h⟩ := bnd_some h
     refine Ops.on 3 (fun h0 e0 => (call_ok (E' := E) (h := h0) (by kernel_rfl) (Args.v (vP eS v105.fTags) ((eL eS) v105.fTags) (by kernel_rfl) (Args.v (vI 4) (eI 4) (by kernel_rfl) Args.nil)) (ok22 m v105.fTags 4 v106 ev106 n (by omega)))) ?_
     refine Ops.sg 1 4 (Ops.dn (seqQ.n (Wp.sq (Wp.rg (Ops.sg 2 2 (Ops.dn (seqQ.n ?_)))))))
     refine Wp.cd h [2, 3, 4, 13, 14, 15] 2 (fun h => ?_) (fun h => ?_)
     ·refine Wp.sq (Wp.rg (Ops.sg 2 2 ?_))
      obtain ⟨v107, ev107, h⟩ := bnd_some h
      refine Ops.on 3 (fun h0 e0 => (call_ok (E' := E) (h := h0) (by kernel_rfl) (Args.v (vI v106) (eI v106) (by kernel_rfl) (Args.v (vI v95) (eI v95) (by kernel_rfl) Args.nil)) (ok21 m v106 v95 v107 ev107 n (by omega)))) ?_
      refine Ops.sg 1 4 (Ops.dn (seqQ.n (Wp.rt (sqQ.r (seqQ.r (blkQ.r (seqQ.r ?_)))))))
      cases h
      refine lpQ.r (blkQ.r ?_)
      exact hrx100 _ hsx104 _ (RetOk.forget k7_0 (by kernel_rfl) (RetOk.mk' (.v (.agg [(vI v107.fCode), (vI v107.fIndex)])) (by kernel_rfl) (by kernel_rfl)))
     ·refine Wp.sk (sqQ.n' (seqQ.n (Wp.sq (Wp.rg (Ops.sg 3 3 ?_)))))
      refine Ops.on 4 (fun h0 e0 => (len_r (T := T) h0 47 62 .plain e61 v105.fGraph.fNodes (by kernel_rfl))) ?_
      refine Ops.sg 2 6 (Ops.dn (seqQ.n (Wp.sq (Wp.sq (Wp.rg (Ops.sg 1 1 (Ops.dn (seqQ.n (Wp.bk 2 [2, 3, 4, 6, 13, 14, 15] 2 ?_)))))))))
      have hLx145 : ∀ (kx129 : Nat) (v126 : Bool) (v127 : Int)  (ox128 : S26 ⊕ (Bool × Int)), iter (fun (y : Bool × Int) => f7_B2 m v105 y.1 y.2) kx129 (v126, v127) = some ox128 → ∀ nx130, kx129 ≤ nx130 → (∀ r, ox128 = .inl r → ∀ σ, RetOk (X7 n) (resOf Proofs.Tryz.prog 7) (e26 r) σ → (seqQ (X7 n) p7_2 (blkQ (X7 n) 1 k7_0 1 (seqQ (X7 n) p7_1 (lpQ (X7 n) k7_0 1 p7_0 nx98 (blkQ (X7 n) 0 [2] 1 (seqQ (X7 n) (cR (cR (cR C7))) (fnQ (X7 n).E.T (resOf Proofs.Tryz.prog 7) (e26 o)))))))) .ret σ) → (∀ (y : Bool × Int) , ox128 = .inr y → (seqQ (X7 n) p7_2 (blkQ (X7 n) 1 k7_0 1 (seqQ (X7 n) p7_1 (lpQ (X7 n) k7_0 1 p7_0 nx98 (blkQ (X7 n) 0 [2] 1 (seqQ (X7 n) (cR (cR (cR C7))) (fnQ (X7 n).E.T (resOf Proofs.Tryz.prog 7) (e26 o)))))))) .normal ⟨Zs15 v95 y.1 y.2 a0 (a0.length : Int) (q40 (q15 [])), [b7_0, (b7_1 v105)]⟩) → Lp (X7 n) [2, 3, 4, 6, 7, 13, 14, 15] 2 (cL (cL (cR (cL (cR (cR (cR (cL (cL (cR (cR p7_0))))))))))) nx130 ⟨Zs15 v95 v126 v127 a0 (a0.length : Int) (q40 (q15 [])), [b7_0, (b7_1 v105)]⟩ (blkQ (X7 n) 2 [2, 3, 4, 6, 13, 14, 15] 2 (seqQ (X7 n) p7_2 (blkQ (X7 n) 1 k7_0 1 (seqQ (X7 n) p7_1 (lpQ (X7 n) k7_0 1 p7_0 nx98 (blkQ (X7 n) 0 [2] 1 (seqQ (X7 n) (cR (cR (cR C7))) (fnQ (X7 n).E.T (resOf Proofs.Tryz.prog 7) (e26 o))))))))) := by
       intro kx129
       induction kx129 with
       | zero => intro v126 v127  ox128 h; exact (iter_zero h).elim
       | succ kx129 ihx131 =>
        intro v126 v127  ox128 h nx130 hnx134 hrx132 hxx133
        obtain ⟨nx130, rfl⟩ : ∃ q, nx130 = q + 1 := ⟨nx130 - 1, by omega⟩
        obtain ⟨sx135, h, hsx136⟩ := iter_some h
        have h : f7_B2 m v105 v126 v127 = some sx135 := h
        unfold f7_B2 at h
        refine Lp.succ (Wp.sq (Wp.sq (Wp.rg (Ops.sg 4 4 ?_))))
        refine Ops.on 5 (fun h0 e0 => (len_r (T := T) h0 47 62 .plain e61 v105.fGraph.fNodes (by kernel_rfl))) ?_
        refine Ops.sg 2 7 ?_
        refine Ops.hv (fun KQ => ∀ (d139 d140 : D) (v141 v142 : Bool), f7_r1 m v105 v126 v127 v142 = some sx135 → KQ 10 ⟨Zs15 v95 v126 v127 a0 (a0.length : Int) (q17 ((dI v127)::(.ptr 1 1)::(.ptr 1 1)::(dP e61 v105.fGraph.fNodes)::(dI (v105.fGraph.fNodes.length : Int))::(dB v141)::(dB v141)::d139::d140::(dB v142)::q28 [])), [b7_0, (b7_1 v105)]⟩) ?_ fun J7j143 => ?_
        ·intro d139 d140 v141 v142 h
         unfold f7_r1 at h
         refine Ops.dn (seqQ.n ?_)
         refine Wp.cd h [2, 3, 4, 7, 13, 14, 15] 2 (fun h => ?_) (fun h => ?_)
         ·refine Wp.sk (sqQ.n' (seqQ.n (Wp.sq (Wp.bk 3 [2, 3, 4, 6, 7, 13, 14, 15] 2 (Wp.rg (Ops.sg 4 4 ?_))))))
          obtain ⟨v144, ev144, h⟩ := bnd_some h
          refine Ops.on 5 (fun h0 e0 => (ix_r (T := T) h0 47 62 2 .plain e61 v105.fGraph.fNodes v127 v144 ev144 (by kernel_rfl) (by kernel_rfl) (fun _ => rfl))) ?_
          refine Ops.sg 2 7 ?_
          refine Ops.on 8 (fun h0 e0 => (len_r (T := T) h0 60 117 .plain e116 v144.fLinks (by kernel_rfl))) ?_
          refine Ops.sg 2 10 (Ops.dn (blkQ.n' (seqQ.n (Wp.rg (Ops.sg 3 3 (Ops.dn (lpQ.m ⟨Zs15 v95 (decide ((v144.fLinks.length : Int) > 40)) (w64 (v127 + 1)) a0 (a0.length : Int) (q40 (q15 [])), [b7_0, (b7_1 v105)]⟩ ?_)))))))
          cases h
          exact ihx131 (decide ((v144.fLinks.length : Int) > 40)) (w64 (v127 + 1))  _ hsx136 _ (by omega) hrx132 hxx133
         ·refine Wp.ex 2 (sqQ.x (seqQ.x ?_))
          cases h
          refine lpQ.x (blkQ.w ⟨Zs15 v95 v126 v127 a0 (a0.length : Int) (q40 (q15 [])), [b7_0, (b7_1 v105)]⟩ ?_)
          exact hxx133 (v126, v127)  hsx136
        refine Ops.hv (fun KQ => ∀ v137 : Bool, f7_r1 m v105 v126 v127 (v137 && (!v126)) = some sx135 → KQ 7 ⟨Zs15 v95 v126 v127 a0 (a0.length : Int) (q17 ((dI v127)::(.ptr 1 1)::(.ptr 1 1)::(dP e61 v105.fGraph.fNodes)::(dI (v105.fGraph.fNodes.length : Int))::(dB v137)::(dB v137)::q31 [])), [b7_0, (b7_1 v105)]⟩) ?_ fun G7g138 => Ops.sx (G7g138 (decide (v127 < (v105.fGraph.fNodes.length : Int))) h)
        intro v137 h
        cases v137
        ·refine Ops.sg 3 10 ?_
         exact Ops.sx (J7j143 U U false false h)
        ·refine Ops.sg 3 10 ?_
         exact Ops.sx (J7j143 (dB v126) (dB (!v126)) true (!v126) h)
      refine Wp.loop' [2, 3, 4, 6, 7, 13, 14, 15] 2 (by kernel_rfl) ⟨q2 ((.ptr 0 0)::(dI v95)::(.ptr 1 0)::q1 ((dB (decide ((v105.fGraph.fNodes.length : Int) > 60)))::(dI 0)::q5 ((dP e56 a0)::(dI (a0.length : Int))::(dI v95)::q40 (q15 [])))), [b7_0, (b7_1 v105)]⟩ (by kernel_rfl) ?_
      rcases brk_some h with ⟨r147, er147, h⟩ | ⟨y146, ey146, h⟩
      ·refine hLx145 _ (decide ((v105.fGraph.fNodes.length : Int) > 60)) 0  _ er147 n (by omega) (fun r er σ hσ => ?_) (fun y  ey => by cases ey)
       cases er
       refine seqQ.r (blkQ.r (seqQ.r (lpQ.r ?_)))
       cases h
       refine blkQ.r ?_
       exact hrx100 _ hsx104 _ (RetOk.forget k7_0 (by kernel_rfl) hσ)
      ·refine hLx145 _ (decide ((v105.fGraph.fNodes.length : Int) > 60)) 0  _ ey146 n (by omega) (fun r er => by cases er) (fun y  ey => ?_)
       cases ey
       refine seqQ.n (Wp.sq (Wp.sq (Wp.rg (Ops.sg 1 1 (Ops.dn (seqQ.n ?_))))))
       refine Wp.cd h [2, 3, 4, 13, 14, 15] 2 (fun h => ?_) (fun h => ?_)
       ·refine Wp.sq (Wp.rg (Ops.sg 1 1 ?_))
        obtain ⟨v148, ev148, h⟩ := bnd_some h
        refine Ops.on 2 (fun h0 e0 => (call_ok (E' := E) (h := h0) (by kernel_rfl) (Args.v (vI 2) (eI 2) (by kernel_rfl) (Args.v (vI v95) (eI v95) (by kernel_rfl) Args.nil)) (ok21 m 2 v95 v148 ev148 n (by omega)))) ?_
        refine Ops.sg 1 3 (Ops.dn (seqQ.n (Wp.rt (sqQ.r (seqQ.r (blkQ.r (seqQ.r ?_)))))))
        cases h
        refine lpQ.r (blkQ.r ?_)
        exact hrx100 _ hsx104 _ (RetOk.forget k7_0 (by kernel_rfl) (RetOk.mk' (.v (.agg [(vI v148.fCode), (vI v148.fIndex)])) (by kernel_rfl) (by kernel_rfl)))
       ·refine Wp.sk (sqQ.n' (seqQ.n (Wp.sq (Wp.rg (Ops.sg 3 3 (Ops.dn (seqQ.n (Wp.sq (Wp.rg (Ops.sg 3 3 ?_))))))))))
        obtain ⟨v149, ev149, h⟩ := bnd_some h
        refine Ops.on 4 (fun h0 e0 => (call_ptr (E' := E) (h := h0) (q := 2) (cs := c81 ((⟨0, false⟩ : S81))) (by kernel_rfl) (by kernel_rfl) (by kernel_rfl) (hq_of e0 (by kernel_rfl)) (by kernel_rfl) (Args.v (.agg [(vI v105.fMeaning.fKind), (.str v105.fMeaning.fName), (vI v105.fMeaning.fIndex), (.str v105.fMeaning.fType.fBase), (vP ep51 v105.fMeaning.fType.fArgs), (vP ep54 v105.fMeaning.fArgs)]) (e54 v105.fMeaning) (by kernel_rfl) (Args.v (vI 1) (eI 1) (by kernel_rfl) Args.nil)) (ok23 m ((⟨0, false⟩ : S81)) v105.fMeaning 1 v149 ev149 n (by omega)))) ?_
        refine Ops.dn (seqQ.n (Wp.sq (Wp.rg (Ops.sg 4 4 (Ops.dn (seqQ.n ?_))))))
        refine Wp.cd h k7_0 3 (fun h => ?_) (fun h => ?_)
        ·refine Wp.sq (Wp.rg (Ops.sg 1 1 ?_))
         obtain ⟨v150, ev150, h⟩ := bnd_some h
         refine Ops.on 2 (fun h0 e0 => (call_ok (E' := E) (h := h0) (by kernel_rfl) (Args.v (vI 2) (eI 2) (by kernel_rfl) (Args.v (vI v95) (eI v95) (by kernel_rfl) Args.nil)) (ok21 m 2 v95 v150 ev150 n (by omega)))) ?_
         refine Ops.sg 1 3 (Ops.dn (seqQ.n (Wp.rt (sqQ.r (blkQ.r (seqQ.r ?_))))))
         cases h
         refine lpQ.r (blkQ.r ?_)
         exact hrx100 _ hsx104 _ (RetOk.forget k7_0 (by kernel_rfl) (RetOk.mk' (.v (.agg [(vI v150.fCode), (vI v150.fIndex)])) (by kernel_rfl) (by kernel_rfl)))
        ·refine Wp.sk (sqQ.n' (blkQ.n' (seqQ.n (Wp.rg (Ops.sg 2 2 (Ops.dn (lpQ.m ⟨Zs30 a0 (a0.length : Int) (w64 (v95 + 1)) [], [b7_0]⟩ ?_)))))))
         cases h
         exact ihx99 (w64 (v95 + 1))  _ hsx104 _ (by omega) hrx100 hxx101
    ·refine Wp.ex 0 (sqQ.x (seqQ.x ?_))
     cases h
     refine lpQ.x (blkQ.w ⟨Zs30 a0 (a0.length : Int) v95 [], [b7_0]⟩ ?_)
     exact hxx101 v95  hsx104
  refine Wp.loop' k7_0 1 (by kernel_rfl) ⟨q2 ((.ptr 0 0)::q10 ((dP e56 a0)::(dI (a0.length : Int))::(dI 0)::q40 (q15 []))), [b7_0]⟩ (by kernel_rfl) ?_
  rcases brk_some h with ⟨r153, er153, h⟩ | ⟨y152, ey152, h⟩
  ·refine hLx151 _ 0  _ er153 n (by omega) (fun r er σ hσ => ?_) (fun y  ey => by cases ey)
   cases er
   refine seqQ.r ?_
   exact fnQ.r' (X7 n) (fun z => (e26 z)) h hσ
  ·refine hLx151 _ 0  _ ey152 n (by omega) (fun r er => by cases er) (fun y  ey => ?_)
   cases ey
   refine seqQ.n (Wp.sq (Wp.rg (Ops.sg 2 2 (Ops.dn (seqQ.n (Wp.rt ?_))))))
   exact fnQ.r' (X7 n) (fun z => (e26 z)) h (RetOk.mk' (.v (.agg [(vI 0), (vI 0)])) (by kernel_rfl) (by kernel_rfl))
end Go.Abs
