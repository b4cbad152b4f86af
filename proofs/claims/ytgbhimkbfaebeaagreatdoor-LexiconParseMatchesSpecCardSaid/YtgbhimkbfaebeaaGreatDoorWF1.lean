import Derived.Test.YtgbhimkbfaebeaaGreatDoorWZ
namespace Go.Abs
set_option linter.unusedVariables false
set_option linter.unusedSimpArgs false
set_option linter.unnecessarySimpa false
set_option maxRecDepth 100000
def f25 (m : Nat) (a0 a1 : Int) : Option S26 :=
 some ((⟨a0, a1⟩ : S26))
noncomputable abbrev X25 (n : Nat) : Cx := cxOf Proofs.Tryz.prog E 25 n
theorem ok25 (m : Nat) (a0 a1 : Int) (o : S26) (h : f25 m a0 a1 = some o) (n : Nat) (hn : m + 1 ≤ n) : Fn Proofs.Tryz.prog E n 25 [.v (eI a0), .v (eI a1)] (e26 o) := by
 obtain ⟨n, rfl⟩ : ∃ q, n = q + 1 := ⟨n - 1, by omega⟩
 unfold f25 at h
 refine Fn.of (by kernel_rfl) (by kernel_rfl) (by kernel_rfl) ⟨(dI a0)::(dI a1)::u6 [], []⟩ (by kernel_rfl) (Wp.sq (Wp.rg (Ops.sg 1 1 (Ops.dn (seqQ.n (Wp.sq (Wp.rg (Ops.sg 4 4 (Ops.dn (seqQ.n (Wp.rt ?_)))))))))))
 exact fnQ.r' (X25 n) (fun z => (e26 z)) h (RetOk.mk' (.v (.agg [(vI a0), (vI a1)])) (by kernel_rfl) (by kernel_rfl))
def f40_r1 (m : Nat) (v88 : Int) (v127 : Bool) : Option (Stp Bool (Int)) :=
 cnd v127
 (some (.ret false))
 (some (.nxt (w64 (v88 + 1))))
def f40_r2 (m : Nat) (v88 v98 : Int) (v104 : Bool) : Option (Stp Bool (Int)) :=
 f40_r1 m v88 ((!v104) && ((v88 == 0) || ((v98 != 95) && ((v98 != 45) && ((decide (v98 < 48)) || (decide (v98 > 57)))))))
def f40_B3 (m : Nat) (a0 : ByteArray) (v88 : Int) : Option (Stp Bool (Int)) :=
 cnd (decide (v88 < (a0.size : Int)))
 (bnd (sidx a0 v88) fun v98 =>
 f40_r2 m v88 v98 ((decide (v98 ≥ 97)) && (decide (v98 ≤ 122))))
 (some (.brk v88))
def f40_r4 (m : Nat) (a0 : ByteArray) (v7 : Bool) : Option Bool :=
 cnd v7
 (some false)
 (brk (iter (fun (y : Int) => f40_B3 m a0 y) m 0) some fun y138 =>
 some true)
def f40 (m : Nat) (a0 : ByteArray) : Option Bool :=
 f40_r4 m a0 ((decide ((a0.size : Int) < 1)) || (decide ((a0.size : Int) > 30)))
noncomputable abbrev X40 (n : Nat) : Cx := cxOf Proofs.Tryz.prog E 40 n
noncomputable def C40 : Code := bodyOf Proofs.Tryz.prog 40
theorem ok40 (m : Nat) (a0 : ByteArray) (o : Bool) (h : f40 m a0 = some o) (n : Nat) (hn : m + 1 ≤ n) : Fn Proofs.Tryz.prog E n 40 [.v (eS a0)] (eB o) := by
 obtain ⟨n, rfl⟩ : ∃ q, n = q + 1 := ⟨n - 1, by omega⟩
 unfold f40 at h
 refine Fn.of (by kernel_rfl) (by kernel_rfl) (by kernel_rfl) ⟨(.v (.str a0))::u40 (u10 []), []⟩ (by kernel_rfl) (Wp.sq (Wp.rg (Ops.sg 1 1 (Ops.dn (seqQ.n (Wp.sq (Wp.sq (Wp.rg (Ops.sg 4 4 ?_)))))))))
 refine Ops.hv (fun KQ => ∀ (d3 d4 d5 : D) (v6 v7 : Bool), f40_r4 m a0 v7 = some o → KQ 8 ⟨(.v (.str a0))::u1 ((dB false)::u3 ((.v (.str a0))::(dI (a0.size : Int))::(dB v6)::(dB v6)::d3::d4::d5::(dB v7)::u37 [])), []⟩) ?_ fun J40j8 => ?_
 ·intro d3 d4 d5 v6 v7 h
  unfold f40_r4 at h
  refine Ops.dn (seqQ.n ?_)
  refine Wp.cd h [0, 2] 0 (fun h => ?_) (fun h => ?_)
  ·refine Wp.sq (Wp.rg (Ops.sg 1 1 (Ops.dn (seqQ.n (Wp.rt (sqQ.r (seqQ.r ?_)))))))
   exact fnQ.r' (X40 n) (fun z => (eB z)) h (RetOk.mk' (dB false) (by kernel_rfl) (by kernel_rfl))
  ·refine Wp.sk (sqQ.n' (seqQ.n (Wp.sq (Wp.sq (Wp.rg (Ops.sg 3 3 (Ops.dn (seqQ.n (Wp.bk 0 [2] 0 ?_)))))))))
   have hLx137 : ∀ (kx90 : Nat) (v88 : Int)  (ox89 : Bool ⊕ (Int)), iter (fun (y : Int) => f40_B3 m a0 y) kx90 v88 = some ox89 → ∀ nx91, kx90 ≤ nx91 → (∀ r, ox89 = .inl r → ∀ σ, RetOk (X40 n) (resOf Proofs.Tryz.prog 40) (eB r) σ → (seqQ (X40 n) (cR (cR (cR C40))) (fnQ (X40 n).E.T (resOf Proofs.Tryz.prog 40) (eB o))) .ret σ) → (∀ (y : Int) , ox89 = .inr y → (seqQ (X40 n) (cR (cR (cR C40))) (fnQ (X40 n).E.T (resOf Proofs.Tryz.prog 40) (eB o))) .normal ⟨Zs23 a0 (q12 ((dI (a0.size : Int))::(dI y)::q34 [])), []⟩) → Lp (X40 n) [0, 2, 15, 16] 0 (cL (cL (cR (cL (cR (cR C40)))))) nx91 ⟨Zs23 a0 (q12 ((dI (a0.size : Int))::(dI v88)::q34 [])), []⟩ (blkQ (X40 n) 0 [2] 0 (seqQ (X40 n) (cR (cR (cR C40))) (fnQ (X40 n).E.T (resOf Proofs.Tryz.prog 40) (eB o)))) := by
    intro kx90
    induction kx90 with
    | zero => intro v88  ox89 h; exact (iter_zero h).elim
    | succ kx90 ihx92 =>
     intro v88  ox89 h nx91 hnx95 hrx93 hxx94
     obtain ⟨nx91, rfl⟩ : ∃ q, nx91 = q + 1 := ⟨nx91 - 1, by omega⟩
     obtain ⟨sx96, h, hsx97⟩ := iter_some h
     have h : f40_B3 m a0 v88 = some sx96 := h
     unfold f40_B3 at h
     refine Lp.succ (Wp.sq (Wp.rg (Ops.sg 1 1 (Ops.dn (seqQ.n (Wp.sq ?_))))))
     refine Wp.cd h [0, 2, 15, 16] 0 (fun h => ?_) (fun h => ?_)
     ·refine Wp.sk (sqQ.n' (seqQ.n (Wp.sq (Wp.bk 1 [0, 2, 15, 16] 0 (Wp.sq (Wp.rg (Ops.sg 2 2 (Ops.dn (seqQ.n (Wp.sq (Wp.rg (Ops.sg 2 2 ?_))))))))))))
      obtain ⟨v98, ev98, h⟩ := bnd_some h
      refine Ops.on 3 (fun h0 e0 => (str_ix (T := T) h0 9 a0 v88 v98 ev98 (by kernel_rfl))) ?_
      refine Ops.sg 1 4 (Ops.dn (seqQ.n (Wp.sq (Wp.rg (Ops.sg 3 3 ?_)))))
      refine Ops.hv (fun KQ => ∀ (d101 d102 : D) (v103 v104 : Bool), f40_r2 m v88 v98 v104 = some sx96 → KQ 6 ⟨Zs23 a0 ((dI v88)::(.v (.int .u8 v98))::q10 ((dI (a0.size : Int))::(dI v88)::(dB (decide (v88 < (a0.size : Int))))::(dI v88)::(.v (.str a0))::(dI v88)::(.v (.int .u8 v98))::(.v (.int .u8 v98))::(dB v103)::(dB v103)::d101::d102::(dB v104)::q23 [])), []⟩) ?_ fun J40j105 => ?_
      ·intro d101 d102 v103 v104 h
       unfold f40_r2 at h
       refine Ops.sg 1 7 (Ops.dn (seqQ.n (Wp.sq (Wp.rg (Ops.sg 3 3 ?_)))))
       refine Ops.hv (fun KQ => ∀ (d108 d109 d110 d111 d112 d113 d114 d115 d116 d117 d118 d119 d120 d121 d122 d123 d124 d125 : D) (v126 v127 : Bool), f40_r1 m v88 v127 = some sx96 → KQ 22 ⟨Zs9 a0 v88 (.v (.int .u8 v98)) v104 (a0.size : Int) (decide (v88 < (a0.size : Int))) v103 d101 d102 ((dB v126)::(dB v126)::d108::d109::d110::d111::d112::d113::d114::d115::d116::d117::d118::d119::d120::d121::d122::d123::d124::d125::(dB v127)::q1 []), []⟩) ?_ fun J40j128 => ?_
       ·intro d108 d109 d110 d111 d112 d113 d114 d115 d116 d117 d118 d119 d120 d121 d122 d123 d124 d125 v126 v127 h
        unfold f40_r1 at h
        refine Ops.dn (seqQ.n ?_)
        refine Wp.cd h [0, 2, 15, 16] 0 (fun h => ?_) (fun h => ?_)
        ·refine Wp.sq (Wp.rg (Ops.sg 1 1 (Ops.dn (seqQ.n (Wp.rt (sqQ.r (blkQ.r (seqQ.r ?_))))))))
         cases h
         refine lpQ.r (blkQ.r ?_)
         exact hrx93 _ hsx97 _ (RetOk.forget [0, 2, 15, 16] (by kernel_rfl) (RetOk.mk' (dB false) (by kernel_rfl) (by kernel_rfl)))
        ·refine Wp.sk (sqQ.n' (blkQ.n' (seqQ.n (Wp.rg (Ops.sg 2 2 (Ops.dn (lpQ.m ⟨Zs23 a0 (q12 ((dI (a0.size : Int))::(dI (w64 (v88 + 1)))::q34 [])), []⟩ ?_)))))))
         cases h
         exact ihx92 (w64 (v88 + 1))  _ hsx97 _ (by omega) hrx93 hxx94
       refine Ops.hv (fun KQ => ∀ v106 : Bool, f40_r1 m v88 (v106 && ((v88 == 0) || ((v98 != 95) && ((v98 != 45) && ((decide (v98 < 48)) || (decide (v98 > 57))))))) = some sx96 → KQ 3 ⟨Zs9 a0 v88 (.v (.int .u8 v98)) v104 (a0.size : Int) (decide (v88 < (a0.size : Int))) v103 d101 d102 ((dB v106)::(dB v106)::q20 []), []⟩) ?_ fun G40g107 => Ops.sx (G40g107 (!v104) h)
       intro v106 h
       cases v106
       ·refine Ops.sg 19 22 ?_
        exact Ops.sx (J40j128 U U U U U U U U U U U U U U U U U U false false h)
       ·refine Ops.sg 3 6 ?_
        refine Ops.hv (fun KQ => ∀ v129 : Bool, (f40_r1 m v88 (true && (v129 || ((v98 != 95) && ((v98 != 45) && ((decide (v98 < 48)) || (decide (v98 > 57)))))))) = some sx96 → KQ 6 ⟨Zs9 a0 v88 (.v (.int .u8 v98)) v104 (a0.size : Int) (decide (v88 < (a0.size : Int))) v103 d101 d102 ((dB true)::(dB true)::(dI v88)::(dB v129)::(dB v129)::q17 []), []⟩) ?_ fun G40g130 => Ops.sx (G40g130 (v88 == 0) h)
        intro v129 h
        cases v129
        ·refine Ops.sg 3 9 ?_
         refine Ops.hv (fun KQ => ∀ v131 : Bool, (f40_r1 m v88 (true && (false || (v131 && ((v98 != 45) && ((decide (v98 < 48)) || (decide (v98 > 57)))))))) = some sx96 → KQ 9 ⟨Zs9 a0 v88 (.v (.int .u8 v98)) v104 (a0.size : Int) (decide (v88 < (a0.size : Int))) v103 d101 d102 ((dB true)::(dB true)::(dI v88)::(dB false)::(dB false)::(.v (.int .u8 v98))::(dB v131)::(dB v131)::q14 []), []⟩) ?_ fun G40g132 => Ops.sx (G40g132 (v98 != 95) h)
         intro v131 h
         cases v131
         ·refine Ops.sg 13 22 ?_
          exact Ops.sx (J40j128 (dI v88) (dB false) (dB false) (.v (.int .u8 v98)) (dB false) (dB false) U U (dB false) (dB false) U U U U U U (dB false) (dB false) true false h)
         ·refine Ops.sg 4 13 ?_
          refine Ops.hv (fun KQ => ∀ v133 : Bool, (f40_r1 m v88 (true && (false || (true && (v133 && ((decide (v98 < 48)) || (decide (v98 > 57)))))))) = some sx96 → KQ 13 ⟨Zs9 a0 v88 (.v (.int .u8 v98)) v104 (a0.size : Int) (decide (v88 < (a0.size : Int))) v103 d101 d102 ((dB true)::(dB true)::(dI v88)::(dB false)::(dB false)::(.v (.int .u8 v98))::(dB true)::(dB true)::(.v (.int .u8 v98))::(dB v133)::(dB v133)::(dB v133)::q10 []), []⟩) ?_ fun G40g134 => Ops.sx (G40g134 (v98 != 45) h)
          intro v133 h
          cases v133
          ·refine Ops.sg 9 22 ?_
           exact Ops.sx (J40j128 (dI v88) (dB false) (dB false) (.v (.int .u8 v98)) (dB true) (dB true) (.v (.int .u8 v98)) (dB false) (dB false) (dB false) U U U U U U (dB false) (dB false) true false h)
          ·refine Ops.sg 3 16 ?_
           refine Ops.hv (fun KQ => ∀ v135 : Bool, (f40_r1 m v88 (true && (false || (true && (true && (v135 || (decide (v98 > 57)))))))) = some sx96 → KQ 16 ⟨Zs9 a0 v88 (.v (.int .u8 v98)) v104 (a0.size : Int) (decide (v88 < (a0.size : Int))) v103 d101 d102 ((dB true)::(dB true)::(dI v88)::(dB false)::(dB false)::(.v (.int .u8 v98))::(dB true)::(dB true)::(.v (.int .u8 v98))::(dB true)::(dB true)::(dB true)::(.v (.int .u8 v98))::(dB v135)::(dB v135)::q7 []), []⟩) ?_ fun G40g136 => Ops.sx (G40g136 (decide (v98 < 48)) h)
           intro v135 h
           cases v135
           ·refine Ops.sg 6 22 ?_
            exact Ops.sx (J40j128 (dI v88) (dB false) (dB false) (.v (.int .u8 v98)) (dB true) (dB true) (.v (.int .u8 v98)) (dB true) (dB true) (dB true) (.v (.int .u8 v98)) (dB false) (dB false) (.v (.int .u8 v98)) (dB (decide (v98 > 57))) (dB (decide (v98 > 57))) (dB (decide (v98 > 57))) (dB (decide (v98 > 57))) true (decide (v98 > 57)) h)
           ·refine Ops.sg 6 22 ?_
            exact Ops.sx (J40j128 (dI v88) (dB false) (dB false) (.v (.int .u8 v98)) (dB true) (dB true) (.v (.int .u8 v98)) (dB true) (dB true) (dB true) (.v (.int .u8 v98)) (dB true) (dB true) U U (dB true) (dB true) (dB true) true true h)
        ·refine Ops.sg 16 22 ?_
         exact Ops.sx (J40j128 (dI v88) (dB true) (dB true) U U U U U U U U U U U U U U (dB true) true true h)
      refine Ops.hv (fun KQ => ∀ v99 : Bool, f40_r2 m v88 v98 (v99 && (decide (v98 ≤ 122))) = some sx96 → KQ 3 ⟨Zs23 a0 ((dI v88)::(.v (.int .u8 v98))::q10 ((dI (a0.size : Int))::(dI v88)::(dB (decide (v88 < (a0.size : Int))))::(dI v88)::(.v (.str a0))::(dI v88)::(.v (.int .u8 v98))::(.v (.int .u8 v98))::(dB v99)::(dB v99)::q26 [])), []⟩) ?_ fun G40g100 => Ops.sx (G40g100 (decide (v98 ≥ 97)) h)
      intro v99 h
      cases v99
      ·refine Ops.sg 3 6 ?_
       exact Ops.sx (J40j105 U U false false h)
      ·refine Ops.sg 3 6 ?_
       exact Ops.sx (J40j105 (.v (.int .u8 v98)) (dB (decide (v98 ≤ 122))) true (decide (v98 ≤ 122)) h)
     ·refine Wp.ex 0 (sqQ.x (seqQ.x ?_))
      cases h
      refine lpQ.x (blkQ.w ⟨Zs23 a0 (q12 ((dI (a0.size : Int))::(dI v88)::q34 [])), []⟩ ?_)
      exact hxx94 v88  hsx97
   refine Wp.loop' [0, 2, 15, 16] 0 (by kernel_rfl) ⟨Zs23 a0 (q12 ((dI (a0.size : Int))::(dI 0)::q34 [])), []⟩ (by kernel_rfl) ?_
   rcases brk_some h with ⟨r139, er139, h⟩ | ⟨y138, ey138, h⟩
   ·refine hLx137 _ 0  _ er139 n (by omega) (fun r er σ hσ => ?_) (fun y  ey => by cases ey)
    cases er
    refine seqQ.r ?_
    exact fnQ.r' (X40 n) (fun z => (eB z)) h hσ
   ·refine hLx137 _ 0  _ ey138 n (by omega) (fun r er => by cases er) (fun y  ey => ?_)
    cases ey
    refine seqQ.n (Wp.sq (Wp.rg (Ops.sg 1 1 (Ops.dn (seqQ.n (Wp.rt ?_))))))
    exact fnQ.r' (X40 n) (fun z => (eB z)) h (RetOk.mk' (dB true) (by kernel_rfl) (by kernel_rfl))
 refine Ops.hv (fun KQ => ∀ v1 : Bool, f40_r4 m a0 (v1 || (decide ((a0.size : Int) > 30))) = some o → KQ 4 ⟨(.v (.str a0))::u1 ((dB false)::u3 ((.v (.str a0))::(dI (a0.size : Int))::(dB v1)::(dB v1)::u40 (u1 []))), []⟩) ?_ fun G40g2 => Ops.sx (G40g2 (decide ((a0.size : Int) < 1)) h)
 intro v1 h
 cases v1
 ·refine Ops.sg 4 8 ?_
  exact Ops.sx (J40j8 (.v (.str a0)) (dI (a0.size : Int)) (dB (decide ((a0.size : Int) > 30))) false (decide ((a0.size : Int) > 30)) h)
 ·refine Ops.sg 4 8 ?_
  exact Ops.sx (J40j8 U U U true true h)
def f82 (m : Nat) (a0 a1 : Int) : Option S26 :=
 some ((⟨a0, a1⟩ : S26))
noncomputable abbrev X82 (n : Nat) : Cx := cxOf Proofs.Tryz.prog E 82 n
theorem ok82 (m : Nat) (a0 a1 : Int) (o : S26) (h : f82 m a0 a1 = some o) (n : Nat) (hn : m + 1 ≤ n) : Fn Proofs.Tryz.prog E n 82 [.v (eI a0), .v (eI a1)] (e26 o) := by
 obtain ⟨n, rfl⟩ : ∃ q, n = q + 1 := ⟨n - 1, by omega⟩
 unfold f82 at h
 refine Fn.of (by kernel_rfl) (by kernel_rfl) (by kernel_rfl) ⟨(dI a0)::(dI a1)::u6 [], []⟩ (by kernel_rfl) (Wp.sq (Wp.rg (Ops.sg 1 1 (Ops.dn (seqQ.n (Wp.sq (Wp.rg (Ops.sg 4 4 (Ops.dn (seqQ.n (Wp.rt ?_)))))))))))
 exact fnQ.r' (X82 n) (fun z => (e26 z)) h (RetOk.mk' (.v (.agg [(vI a0), (vI a1)])) (by kernel_rfl) (by kernel_rfl))
def f83 (m : Nat) (a0 : ByteArray) : Option (Int × Int) := some (((Lib.decodeGo a0).1 : Int), ((Lib.decodeGo a0).2 : Int))
theorem ok83 (m : Nat) (a0 : ByteArray) (o : (Int × Int)) (h : f83 m a0 = some o) (n : Nat) (hn : m + 1 ≤ n) : Fn Proofs.Tryz.prog E n 83 [.v (eS a0)] (.tuple [(eK .i32) o.1, eI o.2]) := by
 obtain ⟨n, rfl⟩ : ∃ q, n = q + 1 := ⟨n - 1, by omega⟩
 refine ora_fn (xs := [eS a0]) (by kernel_rfl) (by kernel_rfl) (by kernel_rfl) (F := decodeF) ?_ rfl
 cases h
 rfl
def f53_r1 (m : Nat) (v26 : (List Int)) (v27 : Int) (v38 : (Int × Int)) (v44 : Bool) : Option (Stp ((List Int) × S26) ((List Int) × Int)) :=
 cnd v44
 (bnd (f82 m 5 v27) fun v46 =>
 some (.ret (([], v46))))
 (bnd (app 8 v26 ([w64 v38.1])) fun v47 =>
 some (.nxt (v47, w64 (v27 + v38.2))))
def f53_B2 (m : Nat) (a0 : ByteArray) (v26 : (List Int)) (v27 : Int) : Option (Stp ((List Int) × S26) ((List Int) × Int)) :=
 cnd (decide (v27 < (a0.size : Int)))
 (bnd (ssub a0 v27 (a0.size : Int)) fun v37 =>
 bnd (f83 m v37) fun v38 =>
 f53_r1 m v26 v27 v38 ((v38.1 == 65533) && (decide (v38.2 ≤ 1))))
 (some (.brk (v26, v27)))
def f53 (m : Nat) (a0 : ByteArray) : Option ((List Int) × S26) :=
 cnd (decide ((a0.size : Int) > 4000))
 (bnd (f82 m 1 (-1)) fun v1 =>
 some (([], v1)))
 (brk (iter (fun (y : (List Int) × Int) => f53_B2 m a0 y.1 y.2) m ([], 0)) some fun y49 =>
 some ((y49.1, (⟨0, 0⟩ : S26))))
noncomputable abbrev X53 (n : Nat) : Cx := cxOf Proofs.Tryz.prog E 53 n
noncomputable def C53 : Code := bodyOf Proofs.Tryz.prog 53
abbrev b53_0 : AObj := .cells [(dI 0), (dI 0)]
theorem ok53 (m : Nat) (a0 : ByteArray) (o : ((List Int) × S26)) (h : f53 m a0 = some o) (n : Nat) (hn : m + 2 ≤ n) : Fn Proofs.Tryz.prog E n 53 [.v (eS a0)] (.tuple [(eL eI) o.1, e26 o.2]) := by
 obtain ⟨n, rfl⟩ : ∃ q, n = q + 1 := ⟨n - 1, by omega⟩
 unfold f53 at h
 refine Fn.of (by kernel_rfl) (by kernel_rfl) (by kernel_rfl) ⟨(.v (.str a0))::u40 [], []⟩ (by kernel_rfl) (Wp.sq (Wp.rg (Ops.sg 2 2 (Ops.dn (seqQ.n (Wp.sq (Wp.sq (Wp.rg (Ops.sg 3 3 (Ops.dn (seqQ.n ?_)))))))))))
 refine Wp.cd h [0, 2, 3] 1 (fun h => ?_) (fun h => ?_)
 ·refine Wp.sq (Wp.rg ?_)
  obtain ⟨v1, ev1, h⟩ := bnd_some h
  refine Ops.on 1 (fun h0 e0 => (call_ok (E' := E) (h := h0) (by kernel_rfl) (Args.v (vI 1) (eI 1) (by kernel_rfl) (Args.v (vI (-1)) (eI (-1)) (by kernel_rfl) Args.nil)) (ok82 m 1 (-1) v1 ev1 n (by omega)))) ?_
  refine Ops.sg 2 3 (Ops.dn (seqQ.n (Wp.rt (sqQ.r (seqQ.r ?_)))))
  exact fnQ.r' (X53 n) (fun z => (.tuple [(eL eI) z.1, e26 z.2])) h (RetOk.mk' (.v (.tuple [(.sl .nil (List.map eI [])), (.agg [(vI v1.fCode), (vI v1.fIndex)])])) (by kernel_rfl) (by kernel_rfl))
 ·refine Wp.sk (sqQ.n' (seqQ.n (Wp.sq (Wp.rg (Ops.sg 1 1 (Ops.dn (seqQ.n (Wp.sq (Wp.sq (Wp.rg (Ops.sg 1 1 (Ops.dn (seqQ.n (Wp.bk 0 [2, 3, 4] 2 ?_))))))))))))))
  have hLx48 : ∀ (kx29 : Nat) (v26 : (List Int)) (v27 : Int)  (ox28 : ((List Int) × S26) ⊕ ((List Int) × Int)), iter (fun (y : (List Int) × Int) => f53_B2 m a0 y.1 y.2) kx29 (v26, v27) = some ox28 → ∀ nx30, kx29 ≤ nx30 → (∀ r, ox28 = .inl r → ∀ σ, RetOk (X53 n) (resOf Proofs.Tryz.prog 53) (.tuple [(eL eI) r.1, e26 r.2]) σ → (seqQ (X53 n) (cR (cR (cR (cR C53)))) (fnQ (X53 n).E.T (resOf Proofs.Tryz.prog 53) (.tuple [(eL eI) o.1, e26 o.2]))) .ret σ) → (∀ (y : (List Int) × Int) , ox28 = .inr y → (seqQ (X53 n) (cR (cR (cR (cR C53)))) (fnQ (X53 n).E.T (resOf Proofs.Tryz.prog 53) (.tuple [(eL eI) o.1, e26 o.2]))) .normal ⟨Zs37 (.v (.sl .nil (List.map eI []))) y.1 (q36 []), [b53_0, .dead, (appO 1 (List.map eI y.1))]⟩) → Lp (X53 n) [0, 2, 3, 4, 5] 2 (cL (cL (cR (cL (cR (cR (cR C53))))))) nx30 ⟨Zs21 a0 (.v (.sl .nil (List.map eI []))) ((appD 2 (List.map eI v26))::(dI v27)::q35 []), [b53_0, .dead, (appO 1 (List.map eI v26))]⟩ (blkQ (X53 n) 0 [2, 3, 4] 2 (seqQ (X53 n) (cR (cR (cR (cR C53)))) (fnQ (X53 n).E.T (resOf Proofs.Tryz.prog 53) (.tuple [(eL eI) o.1, e26 o.2])))) := by
   intro kx29
   induction kx29 with
   | zero => intro v26 v27  ox28 h; exact (iter_zero h).elim
   | succ kx29 ihx31 =>
    intro v26 v27  ox28 h nx30 hnx34 hrx32 hxx33
    obtain ⟨nx30, rfl⟩ : ∃ q, nx30 = q + 1 := ⟨nx30 - 1, by omega⟩
    obtain ⟨sx35, h, hsx36⟩ := iter_some h
    have h : f53_B2 m a0 v26 v27 = some sx35 := h
    unfold f53_B2 at h
    refine Lp.succ (Wp.sq (Wp.sq (Wp.rg (Ops.sg 4 4 (Ops.dn (seqQ.n ?_))))))
    refine Wp.cd h [0, 2, 3, 4, 5] 3 (fun h => ?_) (fun h => ?_)
    ·refine Wp.sk (sqQ.n ⟨Zs21 a0 (.v (.sl .nil (List.map eI []))) ((appD 3 (List.map eI v26))::(dI v27)::q35 []), [b53_0, .dead, .dead, (appO 1 (List.map eI v26))]⟩ (by generalize v26 = z0; cases z0 <;> kernel_rfl) (seqQ.n (Wp.bk 1 [0, 2, 3, 4, 5] 4 (Wp.sq (Wp.rg (Ops.sg 2 2 ?_))))))
     obtain ⟨v37, ev37, h⟩ := bnd_some h
     refine Ops.on 3 (fun h0 e0 => (str_sub (T := T) h0 9 a0 v37 (some v27) none ev37 (by kernel_rfl))) ?_
     obtain ⟨v38, ev38, h⟩ := bnd_some h
     refine Ops.on 4 (fun h0 e0 => (call_ok (E' := E) (h := h0) (by kernel_rfl) (Args.v (.str v37) (eS v37) (by kernel_rfl) Args.nil) (ok83 m v37 v38 ev38 n (by omega)))) ?_
     refine Ops.sg 5 9 (Ops.dn (seqQ.n (Wp.sq (Wp.sq (Wp.rg (Ops.sg 3 3 ?_))))))
     refine Ops.hv (fun KQ => ∀ (d41 d42 : D) (v43 v44 : Bool), f53_r1 m v26 v27 v38 v44 = some sx35 → KQ 6 ⟨Zs21 a0 (.v (.sl .nil (List.map eI []))) ((appD 3 (List.map eI v26))::(dI v27)::(.v (.int .i32 v38.1))::(dI v38.2)::q8 ((.v (.tuple [(.int .i32 v38.1), (vI v38.2)]))::(.v (.str a0))::(dI v27)::(.v (.str v37))::(.v (.tuple [(.int .i32 v38.1), (vI v38.2)]))::(.v (.int .i32 v38.1))::(dI v38.2)::(.v (.int .i32 v38.1))::(dB v43)::(dB v43)::d41::d42::(dB v44)::q12 [])), [b53_0, .dead, .dead, (appO 1 (List.map eI v26))]⟩) ?_ fun J53j45 => ?_
     ·intro d41 d42 v43 v44 h
      unfold f53_r1 at h
      refine Ops.dn (seqQ.n ?_)
      refine Wp.cd h [0, 2, 3, 4, 5, 6, 7] 4 (fun h => ?_) (fun h => ?_)
      ·refine Wp.sq (Wp.rg (Ops.sg 1 1 ?_))
       obtain ⟨v46, ev46, h⟩ := bnd_some h
       refine Ops.on 2 (fun h0 e0 => (call_ok (E' := E) (h := h0) (by kernel_rfl) (Args.v (vI 5) (eI 5) (by kernel_rfl) (Args.v (vI v27) (eI v27) (by kernel_rfl) Args.nil)) (ok82 m 5 v27 v46 ev46 n (by omega)))) ?_
       refine Ops.sg 2 4 (Ops.dn (seqQ.n (Wp.rt (sqQ.r (seqQ.r (blkQ.r ?_))))))
       cases h
       refine lpQ.r (blkQ.r ?_)
       exact hrx32 _ hsx36 _ (RetOk.forget [0, 2, 3, 4, 5] (by kernel_rfl) (RetOk.mk' (.v (.tuple [(.sl .nil (List.map eI [])), (.agg [(vI v46.fCode), (vI v46.fIndex)])])) (by kernel_rfl) (by kernel_rfl)))
      ·refine Wp.sk (sqQ.n ⟨Zs21 a0 (.v (.sl .nil (List.map eI []))) ((appD 4 (List.map eI v26))::(dI v27)::(.v (.int .i32 v38.1))::(dI v38.2)::q33 []), [b53_0, .dead, .dead, .dead, (appO 1 (List.map eI v26))]⟩ (by generalize v26 = z0; cases z0 <;> kernel_rfl) (seqQ.n (Wp.sq (Wp.rg (Ops.sg 4 4 ?_)))))
       obtain ⟨v47, ev47, h⟩ := bnd_some h
       refine Ops.on 5 (fun h0 e0 => (app_r (T := T) (g := .nil) h0 77 3 4 1 ti3 .nonfull eI v26 ([w64 v38.1]) v47 ev47 (by kernel_rfl) (by kernel_rfl) (by kernel_rfl) (by kernel_rfl) (fun _ => rfl) (hq_of e0 (by kernel_rfl)))) ?_
       refine Ops.sg 1 6 (Ops.dn (seqQ.n (Wp.rg (Ops.sg 4 4 (Ops.dn (blkQ.n ⟨Zs21 a0 (.v (.sl .nil (List.map eI []))) ((appD 4 (List.map eI v47))::(dI (w64 (v27 + v38.2)))::q35 []), [b53_0, .dead, .dead, .dead, (appO 1 (List.map eI v47))]⟩ (by generalize v47 = z0; cases z0 <;> kernel_rfl) (lpQ.n ⟨Zs21 a0 (.v (.sl .nil (List.map eI []))) ((appD 2 (List.map eI v47))::(dI (w64 (v27 + v38.2)))::q35 []), [b53_0, .dead, (appO 1 (List.map eI v47))]⟩ (by generalize v47 = z0; cases z0 <;> kernel_rfl) ?_)))))))
       cases h
       exact ihx31 v47 (w64 (v27 + v38.2))  _ hsx36 _ (by omega) hrx32 hxx33
     refine Ops.hv (fun KQ => ∀ v39 : Bool, f53_r1 m v26 v27 v38 (v39 && (decide (v38.2 ≤ 1))) = some sx35 → KQ 3 ⟨Zs21 a0 (.v (.sl .nil (List.map eI []))) ((appD 3 (List.map eI v26))::(dI v27)::(.v (.int .i32 v38.1))::(dI v38.2)::q8 ((.v (.tuple [(.int .i32 v38.1), (vI v38.2)]))::(.v (.str a0))::(dI v27)::(.v (.str v37))::(.v (.tuple [(.int .i32 v38.1), (vI v38.2)]))::(.v (.int .i32 v38.1))::(dI v38.2)::(.v (.int .i32 v38.1))::(dB v39)::(dB v39)::q15 [])), [b53_0, .dead, .dead, (appO 1 (List.map eI v26))]⟩) ?_ fun G53g40 => Ops.sx (G53g40 (v38.1 == 65533) h)
     intro v39 h
     cases v39
     ·refine Ops.sg 3 6 ?_
      exact Ops.sx (J53j45 U U false false h)
     ·refine Ops.sg 3 6 ?_
      exact Ops.sx (J53j45 (dI v38.2) (dB (decide (v38.2 ≤ 1))) true (decide (v38.2 ≤ 1)) h)
    ·refine Wp.ex 0 (sqQ.x (seqQ.x ?_))
     cases h
     refine lpQ.x (blkQ.x ⟨Zs37 (.v (.sl .nil (List.map eI []))) v26 (q36 []), [b53_0, .dead, (appO 1 (List.map eI v26))]⟩ (by generalize v26 = z0; cases z0 <;> kernel_rfl) ?_)
     exact hxx33 (v26, v27)  hsx36
  refine Wp.loop' [0, 2, 3, 4, 5] 2 (by kernel_rfl) ⟨Zs21 a0 (.v (.sl .nil (List.map eI []))) ((appD 2 (List.map eI []))::(dI 0)::q35 []), [b53_0, .dead, .dead]⟩ (by kernel_rfl) ?_
  rcases brk_some h with ⟨r50, er50, h⟩ | ⟨y49, ey49, h⟩
  ·refine hLx48 _ [] 0  _ er50 n (by omega) (fun r er σ hσ => ?_) (fun y  ey => by cases ey)
   cases er
   refine seqQ.r ?_
   exact fnQ.r' (X53 n) (fun z => (.tuple [(eL eI) z.1, e26 z.2])) h hσ
  ·refine hLx48 _ [] 0  _ ey49 n (by omega) (fun r er => by cases er) (fun y  ey => ?_)
   cases ey
   refine seqQ.n (Wp.sq (Wp.rg (Ops.sg 4 4 (Ops.dn (seqQ.n (Wp.rt ?_))))))
   exact fnQ.r' (X53 n) (fun z => (.tuple [(eL eI) z.1, e26 z.2])) h (RetOk.tup [(appD 2 (List.map eI y49.1)), (.v (.agg [(vI 0), (vI 0)]))] (by kernel_rfl) (.d (appD 2 (List.map eI y49.1)) _ (appD_frz _ _ _ _) (appF_nt _ _ _) (.v (.agg [(vI 0), (vI 0)]) _ (by kernel_rfl) (by kernel_rfl) .nil)))
def f54 (m : Nat) (a0 : ByteArray) (a1 : Int) : Option Int := some (Lib.indexByte a0.data.toList a1.toNat.toUInt8)
theorem ok54 (m : Nat) (a0 : ByteArray) (a1 o : Int) (h : f54 m a0 a1 = some o) (n : Nat) (hn : m + 1 ≤ n) : Fn Proofs.Tryz.prog E n 54 [.v (eS a0), .v ((eK .u8) a1)] (eI o) := by
 obtain ⟨n, rfl⟩ : ∃ q, n = q + 1 := ⟨n - 1, by omega⟩
 refine ora_fn (xs := [eS a0, (eK .u8) a1]) (by kernel_rfl) (by kernel_rfl) (by kernel_rfl) (F := ixbyteF) ?_ rfl
 cases h
 rfl
def f41_r1 (m : Nat) (v67 : Int) (v96 : Bool) : Option (Stp Bool (Int)) :=
 cnd v96
 (some (.ret false))
 (some (.nxt (w64 (v67 + 1))))
def f41_r2 (m : Nat) (v67 v77 : Int) (v83 : Bool) : Option (Stp Bool (Int)) :=
 bnd (cnd v83
 (some true)
 (cnd (decide (v77 < 128))
 (bnd (f54 m ((⟨#[32, 9, 10, 40, 41, 91, 93, 44, 59]⟩ : ByteArray)) (IntKind.u8.wrap v77)) fun v100 =>
 some (decide (v100 ≥ 0)))
 (some false))) fun v96 =>
 f41_r1 m v67 v96
def f41_B3 (m : Nat) (v1 : ((List Int) × S26)) (v67 : Int) : Option (Stp Bool (Int)) :=
 cnd (decide (v67 < (v1.1.length : Int)))
 (bnd (idx v1.1 v67) fun v77 =>
 f41_r2 m v67 v77 ((v77 == 0) || (decide (v77 ≥ 983040))))
 (some (.brk v67))
def f41_r4 (m : Nat) (v1 : ((List Int) × S26)) (v16 : Bool) : Option Bool :=
 cnd v16
 (some false)
 (brk (iter (fun (y : Int) => f41_B3 m v1 y) m 0) some fun y102 =>
 some true)
def f41_r5 (m : Nat) (v1 : ((List Int) × S26)) (v8 : Bool) : Option Bool :=
 f41_r4 m v1 (v8 || (decide ((v1.1.length : Int) > 30)))
def f41 (m : Nat) (a0 : ByteArray) : Option Bool :=
 bnd (f53 m a0) fun v1 =>
 f41_r5 m v1 ((!((v1.2.fCode == 0) && ((v1.2.fIndex == 0) && true))) || (decide ((v1.1.length : Int) < 1)))
noncomputable abbrev X41 (n : Nat) : Cx := cxOf Proofs.Tryz.prog E 41 n
noncomputable def C41 : Code := bodyOf Proofs.Tryz.prog 41
abbrev b41_0 (w0 : ((List Int) × S26)) : AObj := .cells [(dI w0.2.fCode), (dI w0.2.fIndex)]
theorem ok41 (m : Nat) (a0 : ByteArray) (o : Bool) (h : f41 m a0 = some o) (n : Nat) (hn : m + 3 ≤ n) : Fn Proofs.Tryz.prog E n 41 [.v (eS a0)] (eB o) := by
 obtain ⟨n, rfl⟩ : ∃ q, n = q + 1 := ⟨n - 1, by omega⟩
 unfold f41 at h
 refine Fn.of (by kernel_rfl) (by kernel_rfl) (by kernel_rfl) ⟨(.v (.str a0))::u40 (u7 []), []⟩ (by kernel_rfl) (Wp.sq (Wp.rg (Ops.sg 1 1 (Ops.dn (seqQ.n (Wp.sq (Wp.rg (Ops.sg 1 1 ?_))))))))
 obtain ⟨v1, ev1, h⟩ := bnd_some h
 refine Ops.on 2 (fun h0 e0 => (call_ok (E' := E) (h := h0) (by kernel_rfl) (Args.v (.str a0) (eS a0) (by kernel_rfl) Args.nil) (ok53 m a0 v1 ev1 n (by omega)))) ?_
 refine Ops.sg 6 8 (Ops.dn (seqQ.n (Wp.sq (Wp.sq (Wp.rg (Ops.sg 4 4 ?_))))))
 refine Ops.hv (fun KQ => ∀ (d4 d5 d6 : D) (v7 v8 : Bool), f41_r5 m v1 v8 = some o → KQ 8 ⟨Zs12 a0 v1.1 (.v (.tuple [(vP eI v1.1), (.agg [(vI v1.2.fCode), (vI v1.2.fIndex)])])) (.v (.agg [(vI v1.2.fCode), (vI v1.2.fIndex)])) (.v (.agg [(vI 0), (vI 0)])) v7 (d4::d5::d6::(dB v8)::u28 []), [(b41_0 v1)]⟩) ?_ fun J41j9 => ?_
 ·intro d4 d5 d6 v7 v8 h
  unfold f41_r5 at h
  refine Ops.sg 1 9 ?_
  refine Ops.hv (fun KQ => ∀ (d12 d13 d14 : D) (v15 v16 : Bool), f41_r4 m v1 v16 = some o → KQ 13 ⟨Zs12 a0 v1.1 (.v (.tuple [(vP eI v1.1), (.agg [(vI v1.2.fCode), (vI v1.2.fIndex)])])) (.v (.agg [(vI v1.2.fCode), (vI v1.2.fIndex)])) (.v (.agg [(vI 0), (vI 0)])) v7 (d4::d5::d6::(dB v15)::(dB v15)::d12::d13::d14::(dB v16)::u23 []), [(b41_0 v1)]⟩) ?_ fun J41j17 => ?_
  ·intro d12 d13 d14 v15 v16 h
   unfold f41_r4 at h
   refine Ops.dn (seqQ.n ?_)
   refine Wp.cd h [2, 3] 1 (fun h => ?_) (fun h => ?_)
   ·refine Wp.sq (Wp.rg (Ops.sg 1 1 (Ops.dn (seqQ.n (Wp.rt (sqQ.r (seqQ.r ?_)))))))
    exact fnQ.r' (X41 n) (fun z => (eB z)) h (RetOk.mk' (dB false) (by kernel_rfl) (by kernel_rfl))
   ·refine Wp.sk (sqQ.n' (seqQ.n (Wp.sq (Wp.sq (Wp.rg (Ops.sg 1 1 ?_))))))
    refine Ops.on 2 (fun h0 e0 => (len_r (T := T) h0 77 3 .plain eI v1.1 (by kernel_rfl))) ?_
    refine Ops.sg 1 3 (Ops.dn (seqQ.n (Wp.bk 0 [2] 1 ?_)))
    have hLx101 : ∀ (kx69 : Nat) (v67 : Int)  (ox68 : Bool ⊕ (Int)), iter (fun (y : Int) => f41_B3 m v1 y) kx69 v67 = some ox68 → ∀ nx70, kx69 ≤ nx70 → (∀ r, ox68 = .inl r → ∀ σ, RetOk (X41 n) (resOf Proofs.Tryz.prog 41) (eB r) σ → (seqQ (X41 n) (cR (cR (cR (cR C41)))) (fnQ (X41 n).E.T (resOf Proofs.Tryz.prog 41) (eB o))) .ret σ) → (∀ (y : Int) , ox68 = .inr y → (seqQ (X41 n) (cR (cR (cR (cR C41)))) (fnQ (X41 n).E.T (resOf Proofs.Tryz.prog 41) (eB o))) .normal ⟨Zs34 v1.1 (v1.1.length : Int) ((dI y)::q20 []), [(b41_0 v1)]⟩) → Lp (X41 n) [2, 25, 26, 27] 1 (cL (cL (cR (cL (cR (cR (cR C41))))))) nx70 ⟨Zs34 v1.1 (v1.1.length : Int) ((dI v67)::q20 []), [(b41_0 v1)]⟩ (blkQ (X41 n) 0 [2] 1 (seqQ (X41 n) (cR (cR (cR (cR C41)))) (fnQ (X41 n).E.T (resOf Proofs.Tryz.prog 41) (eB o)))) := by
     intro kx69
     induction kx69 with
     | zero => intro v67  ox68 h; exact (iter_zero h).elim
     | succ kx69 ihx71 =>
      intro v67  ox68 h nx70 hnx74 hrx72 hxx73
      obtain ⟨nx70, rfl⟩ : ∃ q, nx70 = q + 1 := ⟨nx70 - 1, by omega⟩
      obtain ⟨sx75, h, hsx76⟩ := iter_some h
      have h : f41_B3 m v1 v67 = some sx75 := h
      unfold f41_B3 at h
      refine Lp.succ (Wp.sq (Wp.rg (Ops.sg 1 1 (Ops.dn (seqQ.n (Wp.sq ?_))))))
      refine Wp.cd h [2, 25, 26, 27] 1 (fun h => ?_) (fun h => ?_)
      ·refine Wp.sk (sqQ.n' (seqQ.n (Wp.sq (Wp.bk 1 [2, 25, 26, 27] 1 (Wp.sq (Wp.rg ?_))))))
       obtain ⟨v77, ev77, h⟩ := bnd_some h
       refine Ops.on 1 (fun h0 e0 => (ix_r (T := T) h0 77 3 1 .plain eI v1.1 v67 v77 ev77 (by kernel_rfl) (by kernel_rfl) (fun _ => rfl))) ?_
       refine Ops.sg 2 3 (Ops.dn (seqQ.n (Wp.sq (Wp.rg (Ops.sg 3 3 ?_)))))
       refine Ops.hv (fun KQ => ∀ (d80 d81 : D) (v82 v83 : Bool), f41_r2 m v67 v77 v83 = some sx75 → KQ 6 ⟨Zs19 v77 v1.1 (v1.1.length : Int) v67 (decide (v67 < (v1.1.length : Int))) (.vptr [(vI v77)]) v82 (d80::d81::(dB v83)::q11 []), [(b41_0 v1)]⟩) ?_ fun J41j84 => ?_
       ·intro d80 d81 v82 v83 h
        unfold f41_r2 at h
        refine Ops.sg 1 7 ?_
        refine Ops.hv (fun KQ => ∀ (d87 d88 d89 d90 d91 d92 d93 d94 : D) (v95 v96 : Bool), f41_r1 m v67 v96 = some sx75 → KQ 16 ⟨Zs19 v77 v1.1 (v1.1.length : Int) v67 (decide (v67 < (v1.1.length : Int))) (.vptr [(vI v77)]) v82 (d80::d81::(dB v95)::(dB v95)::d87::d88::d89::d90::d91::d92::d93::d94::(dB v96)::q1 []), [(b41_0 v1)]⟩) ?_ fun J41j97 => ?_
        ·intro d87 d88 d89 d90 d91 d92 d93 d94 v95 v96 h
         unfold f41_r1 at h
         refine Ops.dn (seqQ.n ?_)
         refine Wp.cd h [2, 25, 26, 27] 1 (fun h => ?_) (fun h => ?_)
         ·refine Wp.sq (Wp.rg (Ops.sg 1 1 (Ops.dn (seqQ.n (Wp.rt (sqQ.r (blkQ.r (seqQ.r ?_))))))))
          cases h
          refine lpQ.r (blkQ.r ?_)
          exact hrx72 _ hsx76 _ (RetOk.forget [2, 25, 26, 27] (by kernel_rfl) (RetOk.mk' (dB false) (by kernel_rfl) (by kernel_rfl)))
         ·refine Wp.sk (sqQ.n' (blkQ.n' (seqQ.n (Wp.rg (Ops.sg 2 2 (Ops.dn (lpQ.m ⟨Zs34 v1.1 (v1.1.length : Int) ((dI (w64 (v67 + 1)))::q20 []), [(b41_0 v1)]⟩ ?_)))))))
          cases h
          exact ihx71 (w64 (v67 + 1))  _ hsx76 _ (by omega) hrx72 hxx73
        obtain ⟨v96, ev96, h⟩ := bnd_some h
        refine Ops.hv (fun KQ => ∀ v85 : Bool, (cnd v85 (some true) (cnd (decide (v77 < 128)) (bnd (f54 m ((⟨#[32, 9, 10, 40, 41, 91, 93, 44, 59]⟩ : ByteArray)) (IntKind.u8.wrap v77)) fun v100 => some (decide (v100 ≥ 0))) (some false))) = some v96 → KQ 7 ⟨Zs19 v77 v1.1 (v1.1.length : Int) v67 (decide (v67 < (v1.1.length : Int))) (.vptr [(vI v77)]) v82 (d80::d81::(dB v85)::(dB v85)::q10 []), [(b41_0 v1)]⟩) ?_ fun G41g86 => Ops.sx (G41g86 v83 ev96)
        intro v85 ev96
        cases v85
        ·have ev96 := cnd_f ev96
         refine Ops.sg 3 10 ?_
         refine Ops.hv (fun KQ => ∀ v98 : Bool, (cnd v98 (bnd (f54 m ((⟨#[32, 9, 10, 40, 41, 91, 93, 44, 59]⟩ : ByteArray)) (IntKind.u8.wrap v77)) fun v100 => some (decide (v100 ≥ 0))) (some false)) = some v96 → KQ 10 ⟨Zs19 v77 v1.1 (v1.1.length : Int) v67 (decide (v67 < (v1.1.length : Int))) (.vptr [(vI v77)]) v82 (d80::d81::(dB false)::(dB false)::(dI v77)::(dB v98)::(dB v98)::q7 []), [(b41_0 v1)]⟩) ?_ fun G41g99 => Ops.sx (G41g99 (decide (v77 < 128)) ev96)
         intro v98 ev96
         cases v98
         ·have ev96 := cnd_f ev96
          refine Ops.sg 6 16 ?_
          exact Ops.sx (J41j97 (dI v77) (dB false) (dB false) U U U U (dB false) false false (some_sub (fun v96 => f41_r1 m v67 v96 = some sx75) ev96 h))
         ·have ev96 := cnd_t ev96
          refine Ops.sg 2 12 ?_
          obtain ⟨v100, ev100, ev96⟩ := bnd_some ev96
          refine Ops.on 13 (fun h0 e0 => (call_ok (E' := E) (h := h0) (by kernel_rfl) (Args.v (.str ((⟨#[32, 9, 10, 40, 41, 91, 93, 44, 59]⟩ : ByteArray))) (eS ((⟨#[32, 9, 10, 40, 41, 91, 93, 44, 59]⟩ : ByteArray))) (by kernel_rfl) (Args.v (.int .u8 (IntKind.u8.wrap v77)) ((eK .u8) (IntKind.u8.wrap v77)) (by kernel_rfl) Args.nil)) (ok54 m ((⟨#[32, 9, 10, 40, 41, 91, 93, 44, 59]⟩ : ByteArray)) (IntKind.u8.wrap v77) v100 ev100 n (by omega)))) ?_
          refine Ops.sg 3 16 ?_
          exact Ops.sx (J41j97 (dI v77) (dB true) (dB true) (dI v77) (.v (.int .u8 (IntKind.u8.wrap v77))) (dI v100) (dB (decide (v100 ≥ 0))) (dB (decide (v100 ≥ 0))) false (decide (v100 ≥ 0)) (some_sub (fun v96 => f41_r1 m v67 v96 = some sx75) ev96 h))
        ·have ev96 := cnd_t ev96
         refine Ops.sg 9 16 ?_
         exact Ops.sx (J41j97 U U U U U U U U true true (some_sub (fun v96 => f41_r1 m v67 v96 = some sx75) ev96 h))
       refine Ops.hv (fun KQ => ∀ v78 : Bool, f41_r2 m v67 v77 (v78 || (decide (v77 ≥ 983040))) = some sx75 → KQ 3 ⟨Zs19 v77 v1.1 (v1.1.length : Int) v67 (decide (v67 < (v1.1.length : Int))) (.vptr [(vI v77)]) v78 (q14 []), [(b41_0 v1)]⟩) ?_ fun G41g79 => Ops.sx (G41g79 (v77 == 0) h)
       intro v78 h
       cases v78
       ·refine Ops.sg 3 6 ?_
        exact Ops.sx (J41j84 (dI v77) (dB (decide (v77 ≥ 983040))) false (decide (v77 ≥ 983040)) h)
       ·refine Ops.sg 3 6 ?_
        exact Ops.sx (J41j84 U U true true h)
      ·refine Wp.ex 0 (sqQ.x (seqQ.x ?_))
       cases h
       refine lpQ.x (blkQ.w ⟨Zs34 v1.1 (v1.1.length : Int) ((dI v67)::q20 []), [(b41_0 v1)]⟩ ?_)
       exact hxx73 v67  hsx76
    refine Wp.loop' [2, 25, 26, 27] 1 (by kernel_rfl) ⟨Zs34 v1.1 (v1.1.length : Int) ((dI 0)::q20 []), [(b41_0 v1)]⟩ (by kernel_rfl) ?_
    rcases brk_some h with ⟨r103, er103, h⟩ | ⟨y102, ey102, h⟩
    ·refine hLx101 _ 0  _ er103 n (by omega) (fun r er σ hσ => ?_) (fun y  ey => by cases ey)
     cases er
     refine seqQ.r ?_
     exact fnQ.r' (X41 n) (fun z => (eB z)) h hσ
    ·refine hLx101 _ 0  _ ey102 n (by omega) (fun r er => by cases er) (fun y  ey => ?_)
     cases ey
     refine seqQ.n (Wp.sq (Wp.rg (Ops.sg 1 1 (Ops.dn (seqQ.n (Wp.rt ?_))))))
     exact fnQ.r' (X41 n) (fun z => (eB z)) h (RetOk.mk' (dB true) (by kernel_rfl) (by kernel_rfl))
  refine Ops.hv (fun KQ => ∀ v10 : Bool, f41_r4 m v1 (v10 || (decide ((v1.1.length : Int) > 30))) = some o → KQ 9 ⟨Zs12 a0 v1.1 (.v (.tuple [(vP eI v1.1), (.agg [(vI v1.2.fCode), (vI v1.2.fIndex)])])) (.v (.agg [(vI v1.2.fCode), (vI v1.2.fIndex)])) (.v (.agg [(vI 0), (vI 0)])) v7 (d4::d5::d6::(dB v10)::(dB v10)::u27 []), [(b41_0 v1)]⟩) ?_ fun G41g11 => Ops.sx (G41g11 v8 h)
  intro v10 h
  cases v10
  ·refine Ops.sg 1 10 ?_
   refine Ops.on 11 (fun h0 e0 => (len_r (T := T) h0 77 3 .plain eI v1.1 (by kernel_rfl))) ?_
   refine Ops.sg 2 13 ?_
   exact Ops.sx (J41j17 (dP eI v1.1) (dI (v1.1.length : Int)) (dB (decide ((v1.1.length : Int) > 30))) false (decide ((v1.1.length : Int) > 30)) h)
  ·refine Ops.sg 4 13 ?_
   exact Ops.sx (J41j17 U U U true true h)
 refine Ops.hv (fun KQ => ∀ v2 : Bool, f41_r5 m v1 (v2 || (decide ((v1.1.length : Int) < 1))) = some o → KQ 4 ⟨Zs12 a0 v1.1 (.v (.tuple [(vP eI v1.1), (.agg [(vI v1.2.fCode), (vI v1.2.fIndex)])])) (.v (.agg [(vI v1.2.fCode), (vI v1.2.fIndex)])) (.v (.agg [(vI 0), (vI 0)])) v2 (u32 []), [(b41_0 v1)]⟩) ?_ fun G41g3 => Ops.sx (G41g3 (!((v1.2.fCode == 0) && ((v1.2.fIndex == 0) && true))) h)
 intro v2 h
 cases v2
 ·refine Ops.sg 1 5 ?_
  refine Ops.on 6 (fun h0 e0 => (len_r (T := T) h0 77 3 .plain eI v1.1 (by kernel_rfl))) ?_
  refine Ops.sg 2 8 ?_
  exact Ops.sx (J41j9 (dP eI v1.1) (dI (v1.1.length : Int)) (dB (decide ((v1.1.length : Int) < 1))) false (decide ((v1.1.length : Int) < 1)) h)
 ·refine Ops.sg 4 8 ?_
  exact Ops.sx (J41j9 U U U true true h)
def f27_B1 (m : Nat) (v1 : S44) (v3 : (List S44)) (v7 : Int) : Option (Stp Int (Int)) :=
 cnd (decide (v7 < (v3.length : Int)))
 (bnd (idx v3 v7) fun v17 =>
 cnd (v17.fName.toList == v1.fName.toList)
 (some (.ret 7))
 (some (.nxt (w64 (v7 + 1)))))
 (some (.brk v7))
def f27_B2 (m : Nat) (v182 : S46) (v211 : Int) : Option (Stp Int (Int)) :=
 cnd (decide (v211 < (v182.fTags.length : Int)))
 (bnd (idx v182.fTags v211) fun v221 =>
 bnd (f40 m v221) fun v222 =>
 cnd (!v222)
 (some (.ret 10))
 (some (.nxt (w64 (v211 + 1)))))
 (some (.brk v211))
def f27_r3 (m : Nat) (v172 : Int) (v251 : Bool) : Option (Stp Int (Int)) :=
 cnd v251
 (some (.ret 3))
 (some (.nxt (w64 (v172 + 1))))
def f27_r4 (m : Nat) (v172 : Int) (v182 : S46) (v243 : Bool) : Option (Stp Int (Int)) :=
 f27_r3 m v172 (v243 || (decide (v182.fWeight > 1000000)))
def f27_r5 (m : Nat) (v172 : Int) (v182 : S46) (v235 : Bool) : Option (Stp Int (Int)) :=
 f27_r4 m v172 v182 (v235 || (decide (v182.fWeight < 0)))
def f27_r6 (m : Nat) (a0 : S23) (v172 : Int) (v182 : S46) (v204 : Bool) : Option (Stp Int (Int)) :=
 cnd v204
 (some (.ret 5))
 (cnd (decide ((v182.fTags.length : Int) > 4))
 (some (.ret 2))
 (brk (iter (fun (y : Int) => f27_B2 m v182 y) m 0) (fun r => some (.ret r)) fun y224 =>
 f27_r5 m v172 v182 ((decide (v182.fNext < (-1))) || (decide (v182.fNext ≥ (a0.fClasses.length : Int))))))
def f27_r7 (m : Nat) (a0 : S23) (v172 : Int) (v182 : S46) (v190 : Bool) : Option (Stp Int (Int)) :=
 bnd (cnd v190
 (some true)
 (cnd (!(v182.fForm.toList == (⟨#[]⟩ : ByteArray).toList))
 (bnd (f41 m v182.fForm) fun v255 =>
 some (!v255))
 (some false))) fun v204 =>
 f27_r6 m a0 v172 v182 v204
def f27_B8 (m : Nat) (a0 : S23) (v1 : S44) (v172 : Int) : Option (Stp Int (Int)) :=
 cnd (decide (v172 < (v1.fItems.length : Int)))
 (bnd (idx v1.fItems v172) fun v182 =>
 bnd (cnd (!(v182.fBase.toList == (⟨#[]⟩ : ByteArray).toList))
 (bnd (f41 m v182.fBase) fun v256 =>
 some (!v256))
 (some false)) fun v190 =>
 f27_r7 m a0 v172 v182 v190)
 (some (.brk v172))
def f27 (m : Nat) (a0 : S23) (a1 : Int) : Option Int :=
 bnd (idx a0.fClasses a1) fun v1 =>
 bnd (f40 m v1.fName) fun v2 =>
 cnd (!v2)
 (some 10)
 (bnd (sub a0.fClasses 0 a1) fun v3 =>
 brk (iter (fun (y : Int) => f27_B1 m v1 v3 y) m 0) some fun y19 =>
 cnd (decide ((v1.fItems.length : Int) > 100))
 (some 2)
 (brk (iter (fun (y : Int) => f27_B8 m a0 v1 y) m 0) some fun y258 =>
 some 0))
noncomputable abbrev X27 (n : Nat) : Cx := cxOf Proofs.Tryz.prog E 27 n
noncomputable def C27 : Code := bodyOf Proofs.Tryz.prog 27
noncomputable abbrev p27_0 : Code := cR (cR (cR (cR (cR (cR C27)))))
noncomputable abbrev p27_1 : Code := cL (cL (cR (cL (cR (cR (cR (cR (cR C27))))))))
noncomputable abbrev p27_2 : Code := cR (cR (cR p27_1))
noncomputable abbrev p27_3 : Code := cR (cR (cR (cR (cL (cL (cR (cR p27_1)))))))
noncomputable abbrev p27_4 : Code := cL (cL (cR (cL (cR (cR (cR (cL (cL (cR (cR p27_1))))))))))
abbrev b27_0 (w0 : S23) : AObj := .cells [(dP e44 w0.fClasses)]
abbrev b27_1 (w0 : S44) : AObj := .cells [(.v (.str w0.fName)), (dP e46 w0.fItems)]
abbrev b27_2 (w0 : S46) : AObj := .cells [(.v (.str w0.fBase)), (.v (.str w0.fForm)), (dP eS w0.fTags), (dI w0.fNext), (dI w0.fWeight)]
abbrev k27_0 : List Nat := [2, 4, 5, 24, 25, 26]
abbrev k27_1 : List Nat := [2, 4, 41, 42, 43]
abbrev k27_2 : List Nat := [2, 4, 9, 41, 42, 43, 72, 73, 74]
theorem ok27 (m : Nat) (a0 : S23) (a1 o : Int) (h : f27 m a0 a1 = some o) (n : Nat) (hn : m + 4 ≤ n) : Fn Proofs.Tryz.prog E n 27 [.v (e23 a0), .v (eI a1)] (eI o) := by
 obtain ⟨n, rfl⟩ : ∃ q, n = q + 1 := ⟨n - 1, by omega⟩
 unfold f27 at h
 refine Fn.of (by kernel_rfl) (by kernel_rfl) (by kernel_rfl) ⟨(.v (.agg [(vP e44 a0.fClasses)]))::(dI a1)::u40 (u40 (u22 [])), []⟩ (by kernel_rfl) (Wp.sq (Wp.rg (Ops.sg 2 2 (Ops.dn (seqQ.n (Wp.sq (Wp.rg (Ops.sg 3 3 ?_))))))))
 obtain ⟨v1, ev1, h⟩ := bnd_some h
 refine Ops.on 4 (fun h0 e0 => (ix_r (T := T) h0 22 45 2 .plain e44 a0.fClasses a1 v1 ev1 (by kernel_rfl) (by kernel_rfl) (fun _ => rfl))) ?_
 refine Ops.sg 3 7 (Ops.dn (seqQ.n (Wp.sq (Wp.sq (Wp.rg (Ops.sg 2 2 ?_))))))
 obtain ⟨v2, ev2, h⟩ := bnd_some h
 refine Ops.on 3 (fun h0 e0 => (call_ok (E' := E) (h := h0) (by kernel_rfl) (Args.v (.str v1.fName) (eS v1.fName) (by kernel_rfl) Args.nil) (ok40 m v1.fName v2 ev2 n (by omega)))) ?_
 refine Ops.sg 1 4 (Ops.dn (seqQ.n ?_))
 refine Wp.cd h [1, 2, 4, 5] 2 (fun h => ?_) (fun h => ?_)
 ·refine Wp.sq (Wp.rg (Ops.sg 1 1 (Ops.dn (seqQ.n (Wp.rt (sqQ.r (seqQ.r ?_)))))))
  exact fnQ.r' (X27 n) (fun z => (eI z)) h (RetOk.mk' (dI 10) (by kernel_rfl) (by kernel_rfl))
 ·refine Wp.sk (sqQ.n' (seqQ.n (Wp.sq (Wp.sq (Wp.rg (Ops.sg 3 3 ?_))))))
  obtain ⟨v3, ev3, h⟩ := bnd_some h
  refine Ops.on 4 (fun h0 e0 => (sub_r (T := T) h0 22 45 2 .plain e44 a0.fClasses v3 none (some a1) rfl ev3 (by kernel_rfl) (by kernel_rfl) (fun _ => rfl))) ?_
  refine Ops.on 5 (fun h0 e0 => (len_r (T := T) h0 22 45 .plain e44 v3 (by kernel_rfl))) ?_
  refine Ops.sg 1 6 (Ops.dn (seqQ.n (Wp.bk 0 [2, 4, 5] 2 ?_)))
  have hLx18 : ∀ (kx9 : Nat) (v7 : Int)  (ox8 : Int ⊕ (Int)), iter (fun (y : Int) => f27_B1 m v1 v3 y) kx9 v7 = some ox8 → ∀ nx10, kx9 ≤ nx10 → (∀ r, ox8 = .inl r → ∀ σ, RetOk (X27 n) (resOf Proofs.Tryz.prog 27) (eI r) σ → (seqQ (X27 n) (cR (cR (cR (cR C27)))) (fnQ (X27 n).E.T (resOf Proofs.Tryz.prog 27) (eI o))) .ret σ) → (∀ (y : Int) , ox8 = .inr y → (seqQ (X27 n) (cR (cR (cR (cR C27)))) (fnQ (X27 n).E.T (resOf Proofs.Tryz.prog 27) (eI o))) .normal ⟨Zs25 v3 (v3.length : Int) ((dI y)::q40 (q37 [])), [(b27_0 a0), (b27_1 v1)]⟩) → Lp (X27 n) k27_0 2 (cL (cL (cR (cL (cR (cR (cR C27))))))) nx10 ⟨Zs25 v3 (v3.length : Int) ((dI v7)::q40 (q37 [])), [(b27_0 a0), (b27_1 v1)]⟩ (blkQ (X27 n) 0 [2, 4, 5] 2 (seqQ (X27 n) (cR (cR (cR (cR C27)))) (fnQ (X27 n).E.T (resOf Proofs.Tryz.prog 27) (eI o)))) := by
   intro kx9
   induction kx9 with
   | zero => intro v7  ox8 h; exact (iter_zero h).elim
   | succ kx9 ihx11 =>
    intro v7  ox8 h nx10 hnx14 hrx12 hxx13
    obtain ⟨nx10, rfl⟩ : ∃ q, nx10 = q + 1 := ⟨nx10 - 1, by omega⟩
    obtain ⟨sx15, h, hsx16⟩ := iter_some h
    have h : f27_B1 m v1 v3 v7 = some sx15 := h
    unfold f27_B1 at h
    refine Lp.succ (Wp.sq (Wp.rg (Ops.sg 1 1 (Ops.dn (seqQ.n (Wp.sq ?_))))))
    refine Wp.cd h k27_0 2 (fun h => ?_) (fun h => ?_)
    ·refine Wp.sk (sqQ.n' (seqQ.n (Wp.sq (Wp.bk 1 k27_0 2 (Wp.sq (Wp.rg ?_))))))
     obtain ⟨v17, ev17, h⟩ := bnd_some h
     refine Ops.on 1 (fun h0 e0 => (ix_r (T := T) h0 22 45 2 .plain e44 v3 v7 v17 ev17 (by kernel_rfl) (by kernel_rfl) (fun _ => rfl))) ?_
     refine Ops.sg 3 4 (Ops.dn (seqQ.n (Wp.sq (Wp.rg (Ops.sg 5 5 (Ops.dn (seqQ.n ?_)))))))
     refine Wp.cd h k27_0 3 (fun h => ?_) (fun h => ?_)
     ·refine Wp.sq (Wp.rg (Ops.sg 1 1 (Ops.dn (seqQ.n (Wp.rt (sqQ.r (blkQ.r (seqQ.r ?_))))))))
      cases h
      refine lpQ.r (blkQ.r ?_)
      exact hrx12 _ hsx16 _ (RetOk.forget k27_0 (by kernel_rfl) (RetOk.mk' (dI 7) (by kernel_rfl) (by kernel_rfl)))
     ·refine Wp.sk (sqQ.n' (blkQ.n' (seqQ.n (Wp.rg (Ops.sg 2 2 (Ops.dn (lpQ.m ⟨Zs25 v3 (v3.length : Int) ((dI (w64 (v7 + 1)))::q40 (q37 [])), [(b27_0 a0), (b27_1 v1)]⟩ ?_)))))))
      cases h
      exact ihx11 (w64 (v7 + 1))  _ hsx16 _ (by omega) hrx12 hxx13
    ·refine Wp.ex 0 (sqQ.x (seqQ.x ?_))
     cases h
     refine lpQ.x (blkQ.w ⟨Zs25 v3 (v3.length : Int) ((dI v7)::q40 (q37 [])), [(b27_0 a0), (b27_1 v1)]⟩ ?_)
     exact hxx13 v7  hsx16
  refine Wp.loop' k27_0 2 (by kernel_rfl) ⟨Zs25 v3 (v3.length : Int) ((dI 0)::q40 (q37 [])), [(b27_0 a0), (b27_1 v1)]⟩ (by kernel_rfl) ?_
  rcases brk_some h with ⟨r20, er20, h⟩ | ⟨y19, ey19, h⟩
  ·refine hLx18 _ 0  _ er20 n (by omega) (fun r er σ hσ => ?_) (fun y  ey => by cases ey)
   cases er
   refine seqQ.r ?_
   exact fnQ.r' (X27 n) (fun z => (eI z)) h hσ
  ·refine hLx18 _ 0  _ ey19 n (by omega) (fun r er => by cases er) (fun y  ey => ?_)
   cases ey
   refine seqQ.n (Wp.sq (Wp.sq (Wp.rg (Ops.sg 2 2 ?_))))
   refine Ops.on 3 (fun h0 e0 => (len_r (T := T) h0 43 47 .plain e46 v1.fItems (by kernel_rfl))) ?_
   refine Ops.sg 1 4 (Ops.dn (seqQ.n ?_))
   refine Wp.cd h [2, 4, 5] 2 (fun h => ?_) (fun h => ?_)
   ·refine Wp.sq (Wp.rg (Ops.sg 1 1 (Ops.dn (seqQ.n (Wp.rt (sqQ.r (seqQ.r ?_)))))))
    exact fnQ.r' (X27 n) (fun z => (eI z)) h (RetOk.mk' (dI 2) (by kernel_rfl) (by kernel_rfl))
   ·refine Wp.sk (sqQ.n' (seqQ.n (Wp.sq (Wp.sq (Wp.rg (Ops.sg 2 2 ?_))))))
    refine Ops.on 3 (fun h0 e0 => (len_r (T := T) h0 43 47 .plain e46 v1.fItems (by kernel_rfl))) ?_
    refine Ops.sg 1 4 (Ops.dn (seqQ.n (Wp.bk 2 [4] 2 ?_)))
    have hLx257 : ∀ (kx174 : Nat) (v172 : Int)  (ox173 : Int ⊕ (Int)), iter (fun (y : Int) => f27_B8 m a0 v1 y) kx174 v172 = some ox173 → ∀ nx175, kx174 ≤ nx175 → (∀ r, ox173 = .inl r → ∀ σ, RetOk (X27 n) (resOf Proofs.Tryz.prog 27) (eI r) σ → (seqQ (X27 n) p27_0 (fnQ (X27 n).E.T (resOf Proofs.Tryz.prog 27) (eI o))) .ret σ) → (∀ (y : Int) , ox173 = .inr y → (seqQ (X27 n) p27_0 (fnQ (X27 n).E.T (resOf Proofs.Tryz.prog 27) (eI o))) .normal ⟨Zs30 v1.fItems (v1.fItems.length : Int) ((dI y)::q40 (q20 [])), [(b27_0 a0), (b27_1 v1)]⟩) → Lp (X27 n) k27_1 2 p27_1 nx175 ⟨Zs30 v1.fItems (v1.fItems.length : Int) ((dI v172)::q40 (q20 [])), [(b27_0 a0), (b27_1 v1)]⟩ (blkQ (X27 n) 2 [4] 2 (seqQ (X27 n) p27_0 (fnQ (X27 n).E.T (resOf Proofs.Tryz.prog 27) (eI o)))) := by
     intro kx174
     induction kx174 with
     | zero => intro v172  ox173 h; exact (iter_zero h).elim
     | succ kx174 ihx176 =>
      intro v172  ox173 h nx175 hnx179 hrx177 hxx178
      obtain ⟨nx175, rfl⟩ : ∃ q, nx175 = q + 1 := ⟨nx175 - 1, by omega⟩
      obtain ⟨sx180, h, hsx181⟩ := iter_some h
      have h : f27_B8 m a0 v1 v172 = some sx180 := h
      unfold f27_B8 at h
      refine Lp.succ (Wp.sq (Wp.rg (Ops.sg 1 1 (Ops.dn (seqQ.n (Wp.sq ?_))))))
      refine Wp.cd h k27_1 2 (fun h => ?_) (fun h => ?_)
      ·refine Wp.sk (sqQ.n' (seqQ.n (Wp.sq (Wp.bk 3 k27_1 2 (Wp.sq (Wp.rg ?_))))))
       obtain ⟨v182, ev182, h⟩ := bnd_some h
       refine Ops.on 1 (fun h0 e0 => (ix_r (T := T) h0 43 47 5 .plain e46 v1.fItems v172 v182 ev182 (by kernel_rfl) (by kernel_rfl) (fun _ => rfl))) ?_
       refine Ops.sg 3 4 (Ops.dn (seqQ.n (Wp.sq (Wp.sq (Wp.rg (Ops.sg 4 4 ?_))))))
       refine Ops.hv (fun KQ => ∀ (d185 d186 d187 d188 : D) (v189 v190 : Bool), f27_r7 m a0 v172 v182 v190 = some sx180 → KQ 9 ⟨Zs7 v1.fItems (v1.fItems.length : Int) v172 ((dB (decide (v172 < (v1.fItems.length : Int))))::(.vptr [(.str v182.fBase), (.str v182.fForm), (vP eS v182.fTags), (vI v182.fNext), (vI v182.fWeight)])::(.v (.agg [(.str v182.fBase), (.str v182.fForm), (vP eS v182.fTags), (vI v182.fNext), (vI v182.fWeight)]))::(.ptr 2 0)::(.v (.str v182.fBase))::(dB v189)::(dB v189)::d185::d186::d187::d188::(dB v190)::q40 (q8 [])), [(b27_0 a0), (b27_1 v1), (b27_2 v182)]⟩) ?_ fun J27j191 => ?_
       ·intro d185 d186 d187 d188 v189 v190 h
        unfold f27_r7 at h
        refine Ops.sg 1 10 ?_
        refine Ops.hv (fun KQ => ∀ (d194 d195 d196 d197 d198 d199 d200 d201 d202 : D) (v203 v204 : Bool), f27_r6 m a0 v172 v182 v204 = some sx180 → KQ 20 ⟨Zs7 v1.fItems (v1.fItems.length : Int) v172 ((dB (decide (v172 < (v1.fItems.length : Int))))::(.vptr [(.str v182.fBase), (.str v182.fForm), (vP eS v182.fTags), (vI v182.fNext), (vI v182.fWeight)])::(.v (.agg [(.str v182.fBase), (.str v182.fForm), (vP eS v182.fTags), (vI v182.fNext), (vI v182.fWeight)]))::(.ptr 2 0)::(.v (.str v182.fBase))::(dB v189)::(dB v189)::d185::d186::d187::d188::(dB v203)::(dB v203)::d194::d195::d196::d197::d198::d199::d200::d201::d202::(dB v204)::q37 []), [(b27_0 a0), (b27_1 v1), (b27_2 v182)]⟩) ?_ fun J27j205 => ?_
        ·intro d194 d195 d196 d197 d198 d199 d200 d201 d202 v203 v204 h
         unfold f27_r6 at h
         refine Ops.dn (seqQ.n ?_)
         refine Wp.cd h [2, 4, 9, 41, 42, 43] 3 (fun h => ?_) (fun h => ?_)
         ·refine Wp.sq (Wp.rg (Ops.sg 1 1 (Ops.dn (seqQ.n (Wp.rt (sqQ.r (seqQ.r (blkQ.r (seqQ.r ?_)))))))))
          cases h
          refine lpQ.r (blkQ.r ?_)
          exact hrx177 _ hsx181 _ (RetOk.forget k27_1 (by kernel_rfl) (RetOk.mk' (dI 5) (by kernel_rfl) (by kernel_rfl)))
         ·refine Wp.sk (sqQ.n' (seqQ.n (Wp.sq (Wp.sq (Wp.rg (Ops.sg 2 2 ?_))))))
          refine Ops.on 3 (fun h0 e0 => (len_r (T := T) h0 29 9 .plain eS v182.fTags (by kernel_rfl))) ?_
          refine Ops.sg 1 4 (Ops.dn (seqQ.n ?_))
          refine Wp.cd h [2, 4, 9, 41, 42, 43] 3 (fun h => ?_) (fun h => ?_)
          ·refine Wp.sq (Wp.rg (Ops.sg 1 1 (Ops.dn (seqQ.n (Wp.rt (sqQ.r (seqQ.r (blkQ.r (seqQ.r ?_)))))))))
           cases h
           refine lpQ.r (blkQ.r ?_)
           exact hrx177 _ hsx181 _ (RetOk.forget k27_1 (by kernel_rfl) (RetOk.mk' (dI 2) (by kernel_rfl) (by kernel_rfl)))
          ·refine Wp.sk (sqQ.n' (seqQ.n (Wp.sq (Wp.sq (Wp.rg (Ops.sg 2 2 ?_))))))
           refine Ops.on 3 (fun h0 e0 => (len_r (T := T) h0 29 9 .plain eS v182.fTags (by kernel_rfl))) ?_
           refine Ops.sg 1 4 (Ops.dn (seqQ.n (Wp.bk 4 [2, 4, 9, 41, 42, 43] 3 ?_)))
           have hLx223 : ∀ (kx213 : Nat) (v211 : Int)  (ox212 : Int ⊕ (Int)), iter (fun (y : Int) => f27_B2 m v182 y) kx213 v211 = some ox212 → ∀ nx214, kx213 ≤ nx214 → (∀ r, ox212 = .inl r → ∀ σ, RetOk (X27 n) (resOf Proofs.Tryz.prog 27) (eI r) σ → (seqQ (X27 n) p27_3 (blkQ (X27 n) 3 k27_1 2 (seqQ (X27 n) p27_2 (lpQ (X27 n) k27_1 2 p27_1 nx175 (blkQ (X27 n) 2 [4] 2 (seqQ (X27 n) p27_0 (fnQ (X27 n).E.T (resOf Proofs.Tryz.prog 27) (eI o)))))))) .ret σ) → (∀ (y : Int) , ox212 = .inr y → (seqQ (X27 n) p27_3 (blkQ (X27 n) 3 k27_1 2 (seqQ (X27 n) p27_2 (lpQ (X27 n) k27_1 2 p27_1 nx175 (blkQ (X27 n) 2 [4] 2 (seqQ (X27 n) p27_0 (fnQ (X27 n).E.T (resOf Proofs.Tryz.prog 27) (eI o)))))))) .normal ⟨Zs7 v1.fItems (v1.fItems.length : Int) v172 (q28 ((dP eS v182.fTags)::(dI (v182.fTags.length : Int))::(dI y)::q29 [])), [(b27_0 a0), (b27_1 v1), (b27_2 v182)]⟩) → Lp (X27 n) k27_2 3 p27_4 nx214 ⟨Zs7 v1.fItems (v1.fItems.length : Int) v172 (q28 ((dP eS v182.fTags)::(dI (v182.fTags.length : Int))::(dI v211)::q29 [])), [(b27_0 a0), (b27_1 v1), (b27_2 v182)]⟩ (blkQ (X27 n) 4 [2, 4, 9, 41, 42, 43] 3 (seqQ (X27 n) p27_3 (blkQ (X27 n) 3 k27_1 2 (seqQ (X27 n) p27_2 (lpQ (X27 n) k27_1 2 p27_1 nx175 (blkQ (X27 n) 2 [4] 2 (seqQ (X27 n) p27_0 (fnQ (X27 n).E.T (resOf Proofs.Tryz.prog 27) (eI o))))))))) := by
            intro kx213
            induction kx213 with
            | zero => intro v211  ox212 h; exact (iter_zero h).elim
            | succ kx213 ihx215 =>
             intro v211  ox212 h nx214 hnx218 hrx216 hxx217
             obtain ⟨nx214, rfl⟩ : ∃ q, nx214 = q + 1 := ⟨nx214 - 1, by omega⟩
             obtain ⟨sx219, h, hsx220⟩ := iter_some h
             have h : f27_B2 m v182 v211 = some sx219 := h
             unfold f27_B2 at h
             refine Lp.succ (Wp.sq (Wp.rg (Ops.sg 1 1 (Ops.dn (seqQ.n (Wp.sq ?_))))))
             refine Wp.cd h k27_2 3 (fun h => ?_) (fun h => ?_)
             ·refine Wp.sk (sqQ.n' (seqQ.n (Wp.sq (Wp.bk 5 k27_2 3 (Wp.sq (Wp.rg ?_))))))
              obtain ⟨v221, ev221, h⟩ := bnd_some h
              refine Ops.on 1 (fun h0 e0 => (ix_r (T := T) h0 29 9 1 .plain eS v182.fTags v211 v221 ev221 (by kernel_rfl) (by kernel_rfl) (fun _ => rfl))) ?_
              refine Ops.sg 2 3 (Ops.dn (seqQ.n (Wp.sq (Wp.rg (Ops.sg 1 1 ?_)))))
              obtain ⟨v222, ev222, h⟩ := bnd_some h
              refine Ops.on 2 (fun h0 e0 => (call_ok (E' := E) (h := h0) (by kernel_rfl) (Args.v (.str v221) (eS v221) (by kernel_rfl) Args.nil) (ok40 m v221 v222 ev222 n (by omega)))) ?_
              refine Ops.sg 1 3 (Ops.dn (seqQ.n ?_))
              refine Wp.cd h k27_2 3 (fun h => ?_) (fun h => ?_)
              ·refine Wp.sq (Wp.rg (Ops.sg 1 1 (Ops.dn (seqQ.n (Wp.rt (sqQ.r (blkQ.r (seqQ.r ?_))))))))
               cases h
               refine lpQ.r (blkQ.r ?_)
               exact hrx216 _ hsx220 _ (RetOk.forget k27_2 (by kernel_rfl) (RetOk.mk' (dI 10) (by kernel_rfl) (by kernel_rfl)))
              ·refine Wp.sk (sqQ.n' (blkQ.n' (seqQ.n (Wp.rg (Ops.sg 2 2 (Ops.dn (lpQ.m ⟨Zs7 v1.fItems (v1.fItems.length : Int) v172 (q28 ((dP eS v182.fTags)::(dI (v182.fTags.length : Int))::(dI (w64 (v211 + 1)))::q29 [])), [(b27_0 a0), (b27_1 v1), (b27_2 v182)]⟩ ?_)))))))
               cases h
               exact ihx215 (w64 (v211 + 1))  _ hsx220 _ (by omega) hrx216 hxx217
             ·refine Wp.ex 4 (sqQ.x (seqQ.x ?_))
              cases h
              refine lpQ.x (blkQ.w ⟨Zs7 v1.fItems (v1.fItems.length : Int) v172 (q28 ((dP eS v182.fTags)::(dI (v182.fTags.length : Int))::(dI v211)::q29 [])), [(b27_0 a0), (b27_1 v1), (b27_2 v182)]⟩ ?_)
              exact hxx217 v211  hsx220
           refine Wp.loop' k27_2 3 (by kernel_rfl) ⟨Zs7 v1.fItems (v1.fItems.length : Int) v172 (q28 ((dP eS v182.fTags)::(dI (v182.fTags.length : Int))::(dI 0)::q29 [])), [(b27_0 a0), (b27_1 v1), (b27_2 v182)]⟩ (by kernel_rfl) ?_
           rcases brk_some h with ⟨r225, er225, h⟩ | ⟨y224, ey224, h⟩
           ·refine hLx223 _ 0  _ er225 n (by omega) (fun r er σ hσ => ?_) (fun y  ey => by cases ey)
            cases er
            refine seqQ.r (blkQ.r (seqQ.r (lpQ.r ?_)))
            cases h
            refine blkQ.r ?_
            exact hrx177 _ hsx181 _ (RetOk.forget k27_1 (by kernel_rfl) hσ)
           ·refine hLx223 _ 0  _ ey224 n (by omega) (fun r er => by cases er) (fun y  ey => ?_)
            cases ey
            refine seqQ.n (Wp.sq (Wp.rg (Ops.sg 4 4 ?_)))
            refine Ops.hv (fun KQ => ∀ (d228 d229 d230 d231 d232 d233 : D) (v234 v235 : Bool), f27_r5 m v172 v182 v235 = some sx180 → KQ 11 ⟨Zs7 v1.fItems (v1.fItems.length : Int) v172 (q28 ((dP eS v182.fTags)::(dI (v182.fTags.length : Int))::(dI y224)::q7 ((.ptr 2 3)::(dI v182.fNext)::(dB v234)::(dB v234)::d228::d229::d230::d231::d232::d233::(dB v235)::q11 []))), [(b27_0 a0), (b27_1 v1), (b27_2 v182)]⟩) ?_ fun J27j236 => ?_
            ·intro d228 d229 d230 d231 d232 d233 v234 v235 h
             unfold f27_r5 at h
             refine Ops.sg 1 12 ?_
             refine Ops.hv (fun KQ => ∀ (d239 d240 d241 : D) (v242 v243 : Bool), f27_r4 m v172 v182 v243 = some sx180 → KQ 16 ⟨Zs7 v1.fItems (v1.fItems.length : Int) v172 (q28 ((dP eS v182.fTags)::(dI (v182.fTags.length : Int))::(dI y224)::q7 ((.ptr 2 3)::(dI v182.fNext)::(dB v234)::(dB v234)::d228::d229::d230::d231::d232::d233::(dB v242)::(dB v242)::d239::d240::d241::(dB v243)::q6 []))), [(b27_0 a0), (b27_1 v1), (b27_2 v182)]⟩) ?_ fun J27j244 => ?_
             ·intro d239 d240 d241 v242 v243 h
              unfold f27_r4 at h
              refine Ops.sg 1 17 ?_
              refine Ops.hv (fun KQ => ∀ (d247 d248 d249 : D) (v250 v251 : Bool), f27_r3 m v172 v251 = some sx180 → KQ 21 ⟨Zs7 v1.fItems (v1.fItems.length : Int) v172 (q28 ((dP eS v182.fTags)::(dI (v182.fTags.length : Int))::(dI y224)::q7 ((.ptr 2 3)::(dI v182.fNext)::(dB v234)::(dB v234)::d228::d229::d230::d231::d232::d233::(dB v242)::(dB v242)::d239::d240::d241::(dB v250)::(dB v250)::d247::d248::d249::(dB v251)::q1 []))), [(b27_0 a0), (b27_1 v1), (b27_2 v182)]⟩) ?_ fun J27j252 => ?_
              ·intro d247 d248 d249 v250 v251 h
               unfold f27_r3 at h
               refine Ops.dn (seqQ.n ?_)
               refine Wp.cd h k27_1 3 (fun h => ?_) (fun h => ?_)
               ·refine Wp.sq (Wp.rg (Ops.sg 1 1 (Ops.dn (seqQ.n (Wp.rt (sqQ.r (blkQ.r (seqQ.r ?_))))))))
                cases h
                refine lpQ.r (blkQ.r ?_)
                exact hrx177 _ hsx181 _ (RetOk.forget k27_1 (by kernel_rfl) (RetOk.mk' (dI 3) (by kernel_rfl) (by kernel_rfl)))
               ·refine Wp.sk (sqQ.n' (blkQ.n' (seqQ.n (Wp.rg (Ops.sg 2 2 (Ops.dn (lpQ.m ⟨Zs30 v1.fItems (v1.fItems.length : Int) ((dI (w64 (v172 + 1)))::q40 (q20 [])), [(b27_0 a0), (b27_1 v1)]⟩ ?_)))))))
                cases h
                exact ihx176 (w64 (v172 + 1))  _ hsx181 _ (by omega) hrx177 hxx178
              refine Ops.hv (fun KQ => ∀ v245 : Bool, f27_r3 m v172 (v245 || (decide (v182.fWeight > 1000000))) = some sx180 → KQ 17 ⟨Zs7 v1.fItems (v1.fItems.length : Int) v172 (q28 ((dP eS v182.fTags)::(dI (v182.fTags.length : Int))::(dI y224)::q7 ((.ptr 2 3)::(dI v182.fNext)::(dB v234)::(dB v234)::d228::d229::d230::d231::d232::d233::(dB v242)::(dB v242)::d239::d240::d241::(dB v245)::(dB v245)::q5 []))), [(b27_0 a0), (b27_1 v1), (b27_2 v182)]⟩) ?_ fun G27g246 => Ops.sx (G27g246 v243 h)
              intro v245 h
              cases v245
              ·refine Ops.sg 4 21 ?_
               exact Ops.sx (J27j252 (.ptr 2 4) (dI v182.fWeight) (dB (decide (v182.fWeight > 1000000))) false (decide (v182.fWeight > 1000000)) h)
              ·refine Ops.sg 4 21 ?_
               exact Ops.sx (J27j252 U U U true true h)
             refine Ops.hv (fun KQ => ∀ v237 : Bool, f27_r4 m v172 v182 (v237 || (decide (v182.fWeight < 0))) = some sx180 → KQ 12 ⟨Zs7 v1.fItems (v1.fItems.length : Int) v172 (q28 ((dP eS v182.fTags)::(dI (v182.fTags.length : Int))::(dI y224)::q7 ((.ptr 2 3)::(dI v182.fNext)::(dB v234)::(dB v234)::d228::d229::d230::d231::d232::d233::(dB v237)::(dB v237)::q10 []))), [(b27_0 a0), (b27_1 v1), (b27_2 v182)]⟩) ?_ fun G27g238 => Ops.sx (G27g238 v235 h)
             intro v237 h
             cases v237
             ·refine Ops.sg 4 16 ?_
              exact Ops.sx (J27j244 (.ptr 2 4) (dI v182.fWeight) (dB (decide (v182.fWeight < 0))) false (decide (v182.fWeight < 0)) h)
             ·refine Ops.sg 4 16 ?_
              exact Ops.sx (J27j244 U U U true true h)
            refine Ops.hv (fun KQ => ∀ v226 : Bool, f27_r5 m v172 v182 (v226 || (decide (v182.fNext ≥ (a0.fClasses.length : Int)))) = some sx180 → KQ 4 ⟨Zs7 v1.fItems (v1.fItems.length : Int) v172 (q28 ((dP eS v182.fTags)::(dI (v182.fTags.length : Int))::(dI y224)::q7 ((.ptr 2 3)::(dI v182.fNext)::(dB v226)::(dB v226)::q18 []))), [(b27_0 a0), (b27_1 v1), (b27_2 v182)]⟩) ?_ fun G27g227 => Ops.sx (G27g227 (decide (v182.fNext < (-1))) h)
            intro v226 h
            cases v226
            ·refine Ops.sg 4 8 ?_
             refine Ops.on 9 (fun h0 e0 => (len_r (T := T) h0 22 45 .plain e44 a0.fClasses (by kernel_rfl))) ?_
             refine Ops.sg 2 11 ?_
             exact Ops.sx (J27j236 (.ptr 2 3) (dI v182.fNext) (.ptr 0 0) (dP e44 a0.fClasses) (dI (a0.fClasses.length : Int)) (dB (decide (v182.fNext ≥ (a0.fClasses.length : Int)))) false (decide (v182.fNext ≥ (a0.fClasses.length : Int))) h)
            ·refine Ops.sg 7 11 ?_
             exact Ops.sx (J27j236 U U U U U U true true h)
        obtain ⟨v204, ev204, h⟩ := bnd_some h
        refine Ops.hv (fun KQ => ∀ v192 : Bool, (cnd v192 (some true) (cnd (!(v182.fForm.toList == (⟨#[]⟩ : ByteArray).toList)) (bnd (f41 m v182.fForm) fun v255 => some (!v255)) (some false))) = some v204 → KQ 10 ⟨Zs7 v1.fItems (v1.fItems.length : Int) v172 ((dB (decide (v172 < (v1.fItems.length : Int))))::(.vptr [(.str v182.fBase), (.str v182.fForm), (vP eS v182.fTags), (vI v182.fNext), (vI v182.fWeight)])::(.v (.agg [(.str v182.fBase), (.str v182.fForm), (vP eS v182.fTags), (vI v182.fNext), (vI v182.fWeight)]))::(.ptr 2 0)::(.v (.str v182.fBase))::(dB v189)::(dB v189)::d185::d186::d187::d188::(dB v192)::(dB v192)::q40 (q7 [])), [(b27_0 a0), (b27_1 v1), (b27_2 v182)]⟩) ?_ fun G27g193 => Ops.sx (G27g193 v190 ev204)
        intro v192 ev204
        cases v192
        ·have ev204 := cnd_f ev204
         refine Ops.sg 4 14 ?_
         refine Ops.hv (fun KQ => ∀ v253 : Bool, (cnd v253 (bnd (f41 m v182.fForm) fun v255 => some (!v255)) (some false)) = some v204 → KQ 14 ⟨Zs7 v1.fItems (v1.fItems.length : Int) v172 ((dB (decide (v172 < (v1.fItems.length : Int))))::(.vptr [(.str v182.fBase), (.str v182.fForm), (vP eS v182.fTags), (vI v182.fNext), (vI v182.fWeight)])::(.v (.agg [(.str v182.fBase), (.str v182.fForm), (vP eS v182.fTags), (vI v182.fNext), (vI v182.fWeight)]))::(.ptr 2 0)::(.v (.str v182.fBase))::(dB v189)::(dB v189)::d185::d186::d187::d188::(dB false)::(dB false)::(.ptr 2 1)::(.v (.str v182.fForm))::(dB v253)::(dB v253)::q40 (q3 [])), [(b27_0 a0), (b27_1 v1), (b27_2 v182)]⟩) ?_ fun G27g254 => Ops.sx (G27g254 (!(v182.fForm.toList == (⟨#[]⟩ : ByteArray).toList)) ev204)
         intro v253 ev204
         cases v253
         ·have ev204 := cnd_f ev204
          refine Ops.sg 6 20 ?_
          exact Ops.sx (J27j205 (.ptr 2 1) (.v (.str v182.fForm)) (dB false) (dB false) U U U U (dB false) false false (some_sub (fun v204 => f27_r6 m a0 v172 v182 v204 = some sx180) ev204 h))
         ·have ev204 := cnd_t ev204
          refine Ops.sg 2 16 ?_
          obtain ⟨v255, ev255, ev204⟩ := bnd_some ev204
          refine Ops.on 17 (fun h0 e0 => (call_ok (E' := E) (h := h0) (by kernel_rfl) (Args.v (.str v182.fForm) (eS v182.fForm) (by kernel_rfl) Args.nil) (ok41 m v182.fForm v255 ev255 n (by omega)))) ?_
          refine Ops.sg 3 20 ?_
          exact Ops.sx (J27j205 (.ptr 2 1) (.v (.str v182.fForm)) (dB true) (dB true) (.ptr 2 1) (.v (.str v182.fForm)) (dB v255) (dB (!v255)) (dB (!v255)) false (!v255) (some_sub (fun v204 => f27_r6 m a0 v172 v182 v204 = some sx180) ev204 h))
        ·have ev204 := cnd_t ev204
         refine Ops.sg 10 20 ?_
         exact Ops.sx (J27j205 U U U U U U U U U true true (some_sub (fun v204 => f27_r6 m a0 v172 v182 v204 = some sx180) ev204 h))
       obtain ⟨v190, ev190, h⟩ := bnd_some h
       refine Ops.hv (fun KQ => ∀ v183 : Bool, (cnd v183 (bnd (f41 m v182.fBase) fun v256 => some (!v256)) (some false)) = some v190 → KQ 4 ⟨Zs7 v1.fItems (v1.fItems.length : Int) v172 ((dB (decide (v172 < (v1.fItems.length : Int))))::(.vptr [(.str v182.fBase), (.str v182.fForm), (vP eS v182.fTags), (vI v182.fNext), (vI v182.fWeight)])::(.v (.agg [(.str v182.fBase), (.str v182.fForm), (vP eS v182.fTags), (vI v182.fNext), (vI v182.fWeight)]))::(.ptr 2 0)::(.v (.str v182.fBase))::(dB v183)::(dB v183)::q40 (q13 [])), [(b27_0 a0), (b27_1 v1), (b27_2 v182)]⟩) ?_ fun G27g184 => Ops.sx (G27g184 (!(v182.fBase.toList == (⟨#[]⟩ : ByteArray).toList)) ev190)
       intro v183 ev190
       cases v183
       ·have ev190 := cnd_f ev190
        refine Ops.sg 5 9 ?_
        exact Ops.sx (J27j191 U U U U false false (some_sub (fun v190 => f27_r7 m a0 v172 v182 v190 = some sx180) ev190 h))
       ·have ev190 := cnd_t ev190
        refine Ops.sg 2 6 ?_
        obtain ⟨v256, ev256, ev190⟩ := bnd_some ev190
        refine Ops.on 7 (fun h0 e0 => (call_ok (E' := E) (h := h0) (by kernel_rfl) (Args.v (.str v182.fBase) (eS v182.fBase) (by kernel_rfl) Args.nil) (ok41 m v182.fBase v256 ev256 n (by omega)))) ?_
        refine Ops.sg 2 9 ?_
        exact Ops.sx (J27j191 (.ptr 2 0) (.v (.str v182.fBase)) (dB v256) (dB (!v256)) true (!v256) (some_sub (fun v190 => f27_r7 m a0 v172 v182 v190 = some sx180) ev190 h))
      ·refine Wp.ex 2 (sqQ.x (seqQ.x ?_))
       cases h
       refine lpQ.x (blkQ.w ⟨Zs30 v1.fItems (v1.fItems.length : Int) ((dI v172)::q40 (q20 [])), [(b27_0 a0), (b27_1 v1)]⟩ ?_)
       exact hxx178 v172  hsx181
    refine Wp.loop' k27_1 2 (by kernel_rfl) ⟨Zs30 v1.fItems (v1.fItems.length : Int) ((dI 0)::q40 (q20 [])), [(b27_0 a0), (b27_1 v1)]⟩ (by kernel_rfl) ?_
    rcases brk_some h with ⟨r259, er259, h⟩ | ⟨y258, ey258, h⟩
    ·refine hLx257 _ 0  _ er259 n (by omega) (fun r er σ hσ => ?_) (fun y  ey => by cases ey)
     cases er
     refine seqQ.r ?_
     exact fnQ.r' (X27 n) (fun z => (eI z)) h hσ
    ·refine hLx257 _ 0  _ ey258 n (by omega) (fun r er => by cases er) (fun y  ey => ?_)
     cases ey
     refine seqQ.n (Wp.sq (Wp.rg (Ops.sg 1 1 (Ops.dn (seqQ.n (Wp.rt ?_))))))
     exact fnQ.r' (X27 n) (fun z => (eI z)) h (RetOk.mk' (dI 0) (by kernel_rfl) (by kernel_rfl))
def f11_B1 (m : Nat) (a0 : S23) (v16 : Int) : Option (Stp S26 (Int)) :=
 cnd (decide (v16 < (a0.fClasses.length : Int)))
 (bnd (f27 m a0 v16) fun v26 =>
 cnd (v26 != 0)
 (bnd (f25 m v26 v16) fun v27 =>
 some (.ret v27))
 (some (.nxt (w64 (v16 + 1)))))
 (some (.brk v16))
def f11_r2 (m : Nat) (a0 : S23) (v8 : Bool) : Option S26 :=
 cnd v8
 (bnd (f25 m 9 (-1)) fun v10 =>
 some v10)
 (brk (iter (fun (y : Int) => f11_B1 m a0 y) m 0) some fun y29 =>
 some ((⟨0, 0⟩ : S26)))
def f11 (m : Nat) (a0 : S23) : Option S26 :=
 f11_r2 m a0 ((decide ((a0.fClasses.length : Int) < 1)) || (decide ((a0.fClasses.length : Int) > 40)))
noncomputable abbrev X11 (n : Nat) : Cx := cxOf Proofs.Tryz.prog E 11 n
noncomputable def C11 : Code := bodyOf Proofs.Tryz.prog 11
abbrev b11_0 (w0 : S23) : AObj := .cells [(dP e44 w0.fClasses)]
theorem ok11 (m : Nat) (a0 : S23) (o : S26) (h : f11 m a0 = some o) (n : Nat) (hn : m + 5 ≤ n) : Fn Proofs.Tryz.prog E n 11 [.v (e23 a0)] (e26 o) := by
 obtain ⟨n, rfl⟩ : ∃ q, n = q + 1 := ⟨n - 1, by omega⟩
 unfold f11 at h
 refine Fn.of (by kernel_rfl) (by kernel_rfl) (by kernel_rfl) ⟨(.v (.agg [(vP e44 a0.fClasses)]))::u31 [], []⟩ (by kernel_rfl) (Wp.sq (Wp.rg (Ops.sg 2 2 (Ops.dn (seqQ.n (Wp.sq (Wp.sq (Wp.rg (Ops.sg 2 2 ?_)))))))))
 refine Ops.on 3 (fun h0 e0 => (len_r (T := T) h0 22 45 .plain e44 a0.fClasses (by kernel_rfl))) ?_
 refine Ops.sg 2 5 ?_
 refine Ops.hv (fun KQ => ∀ (d3 d4 d5 d6 : D) (v7 v8 : Bool), f11_r2 m a0 v8 = some o → KQ 10 ⟨(.v (.agg [(vP e44 a0.fClasses)]))::(.ptr 0 0)::(.ptr 1 0)::u2 ((.ptr 0 0)::(dP e44 a0.fClasses)::(dI (a0.fClasses.length : Int))::(dB v7)::(dB v7)::d3::d4::d5::d6::(dB v8)::u17 []), [(b11_0 a0), (.cells [(dI 0), (dI 0)])]⟩) ?_ fun J11j9 => ?_
 ·intro d3 d4 d5 d6 v7 v8 h
  unfold f11_r2 at h
  refine Ops.dn (seqQ.n ?_)
  refine Wp.cd h [1, 2] 2 (fun h => ?_) (fun h => ?_)
  ·refine Wp.sq (Wp.rg ?_)
   obtain ⟨v10, ev10, h⟩ := bnd_some h
   refine Ops.on 1 (fun h0 e0 => (call_ok (E' := E) (h := h0) (by kernel_rfl) (Args.v (vI 9) (eI 9) (by kernel_rfl) (Args.v (vI (-1)) (eI (-1)) (by kernel_rfl) Args.nil)) (ok25 m 9 (-1) v10 ev10 n (by omega)))) ?_
   refine Ops.sg 1 2 (Ops.dn (seqQ.n (Wp.rt (sqQ.r (seqQ.r ?_)))))
   exact fnQ.r' (X11 n) (fun z => (e26 z)) h (RetOk.mk' (.v (.agg [(vI v10.fCode), (vI v10.fIndex)])) (by kernel_rfl) (by kernel_rfl))
  ·refine Wp.sk (sqQ.n' (seqQ.n (Wp.sq (Wp.sq (Wp.rg (Ops.sg 2 2 ?_))))))
   refine Ops.on 3 (fun h0 e0 => (len_r (T := T) h0 22 45 .plain e44 a0.fClasses (by kernel_rfl))) ?_
   refine Ops.sg 1 4 (Ops.dn (seqQ.n (Wp.bk 0 [2] 2 ?_)))
   have hLx28 : ∀ (kx18 : Nat) (v16 : Int)  (ox17 : S26 ⊕ (Int)), iter (fun (y : Int) => f11_B1 m a0 y) kx18 v16 = some ox17 → ∀ nx19, kx18 ≤ nx19 → (∀ r, ox17 = .inl r → ∀ σ, RetOk (X11 n) (resOf Proofs.Tryz.prog 11) (e26 r) σ → (seqQ (X11 n) (cR (cR (cR C11))) (fnQ (X11 n).E.T (resOf Proofs.Tryz.prog 11) (e26 o))) .ret σ) → (∀ (y : Int) , ox17 = .inr y → (seqQ (X11 n) (cR (cR (cR C11))) (fnQ (X11 n).E.T (resOf Proofs.Tryz.prog 11) (e26 o))) .normal ⟨Zs16 (q15 ((dI (a0.fClasses.length : Int))::(dI y)::q12 [])), [(b11_0 a0), (.cells [(dI 0), (dI 0)])]⟩) → Lp (X11 n) [1, 2, 18, 19] 2 (cL (cL (cR (cL (cR (cR C11)))))) nx19 ⟨Zs16 (q15 ((dI (a0.fClasses.length : Int))::(dI v16)::q12 [])), [(b11_0 a0), (.cells [(dI 0), (dI 0)])]⟩ (blkQ (X11 n) 0 [2] 2 (seqQ (X11 n) (cR (cR (cR C11))) (fnQ (X11 n).E.T (resOf Proofs.Tryz.prog 11) (e26 o)))) := by
    intro kx18
    induction kx18 with
    | zero => intro v16  ox17 h; exact (iter_zero h).elim
    | succ kx18 ihx20 =>
     intro v16  ox17 h nx19 hnx23 hrx21 hxx22
     obtain ⟨nx19, rfl⟩ : ∃ q, nx19 = q + 1 := ⟨nx19 - 1, by omega⟩
     obtain ⟨sx24, h, hsx25⟩ := iter_some h
     have h : f11_B1 m a0 v16 = some sx24 := h
     unfold f11_B1 at h
     refine Lp.succ (Wp.sq (Wp.rg (Ops.sg 1 1 (Ops.dn (seqQ.n (Wp.sq ?_))))))
     refine Wp.cd h [1, 2, 18, 19] 2 (fun h => ?_) (fun h => ?_)
     ·refine Wp.sk (sqQ.n' (seqQ.n (Wp.sq (Wp.bk 1 [1, 2, 18, 19] 2 (Wp.sq (Wp.rg (Ops.sg 2 2 (Ops.dn (seqQ.n (Wp.sq (Wp.rg (Ops.sg 2 2 ?_))))))))))))
      obtain ⟨v26, ev26, h⟩ := bnd_some h
      refine Ops.on 3 (fun h0 e0 => (call_ok (E' := E) (h := h0) (by kernel_rfl) (Args.v (.agg [(vP e44 a0.fClasses)]) (e23 a0) (by kernel_rfl) (Args.v (vI v16) (eI v16) (by kernel_rfl) Args.nil)) (ok27 m a0 v16 v26 ev26 n (by omega)))) ?_
      refine Ops.sg 1 4 (Ops.dn (seqQ.n (Wp.sq (Wp.rg (Ops.sg 2 2 (Ops.dn (seqQ.n ?_)))))))
      refine Wp.cd h [1, 2, 18, 19] 2 (fun h => ?_) (fun h => ?_)
      ·refine Wp.sq (Wp.rg (Ops.sg 2 2 ?_))
       obtain ⟨v27, ev27, h⟩ := bnd_some h
       refine Ops.on 3 (fun h0 e0 => (call_ok (E' := E) (h := h0) (by kernel_rfl) (Args.v (vI v26) (eI v26) (by kernel_rfl) (Args.v (vI v16) (eI v16) (by kernel_rfl) Args.nil)) (ok25 m v26 v16 v27 ev27 n (by omega)))) ?_
       refine Ops.sg 1 4 (Ops.dn (seqQ.n (Wp.rt (sqQ.r (blkQ.r (seqQ.r ?_))))))
       cases h
       refine lpQ.r (blkQ.r ?_)
       exact hrx21 _ hsx25 _ (RetOk.forget [1, 2, 18, 19] (by kernel_rfl) (RetOk.mk' (.v (.agg [(vI v27.fCode), (vI v27.fIndex)])) (by kernel_rfl) (by kernel_rfl)))
      ·refine Wp.sk (sqQ.n' (blkQ.n' (seqQ.n (Wp.rg (Ops.sg 2 2 (Ops.dn (lpQ.m ⟨Zs16 (q15 ((dI (a0.fClasses.length : Int))::(dI (w64 (v16 + 1)))::q12 [])), [(b11_0 a0), (.cells [(dI 0), (dI 0)])]⟩ ?_)))))))
       cases h
       exact ihx20 (w64 (v16 + 1))  _ hsx25 _ (by omega) hrx21 hxx22
     ·refine Wp.ex 0 (sqQ.x (seqQ.x ?_))
      cases h
      refine lpQ.x (blkQ.w ⟨Zs16 (q15 ((dI (a0.fClasses.length : Int))::(dI v16)::q12 [])), [(b11_0 a0), (.cells [(dI 0), (dI 0)])]⟩ ?_)
      exact hxx22 v16  hsx25
   refine Wp.loop' [1, 2, 18, 19] 2 (by kernel_rfl) ⟨Zs16 (q15 ((dI (a0.fClasses.length : Int))::(dI 0)::q12 [])), [(b11_0 a0), (.cells [(dI 0), (dI 0)])]⟩ (by kernel_rfl) ?_
   rcases brk_some h with ⟨r30, er30, h⟩ | ⟨y29, ey29, h⟩
   ·refine hLx28 _ 0  _ er30 n (by omega) (fun r er σ hσ => ?_) (fun y  ey => by cases ey)
    cases er
    refine seqQ.r ?_
    exact fnQ.r' (X11 n) (fun z => (e26 z)) h hσ
   ·refine hLx28 _ 0  _ ey29 n (by omega) (fun r er => by cases er) (fun y  ey => ?_)
    cases ey
    refine seqQ.n (Wp.sq (Wp.rg (Ops.sg 2 2 (Ops.dn (seqQ.n (Wp.rt ?_))))))
    exact fnQ.r' (X11 n) (fun z => (e26 z)) h (RetOk.mk' (.v (.agg [(vI 0), (vI 0)])) (by kernel_rfl) (by kernel_rfl))
 refine Ops.hv (fun KQ => ∀ v1 : Bool, f11_r2 m a0 (v1 || (decide ((a0.fClasses.length : Int) > 40))) = some o → KQ 5 ⟨(.v (.agg [(vP e44 a0.fClasses)]))::(.ptr 0 0)::(.ptr 1 0)::u2 ((.ptr 0 0)::(dP e44 a0.fClasses)::(dI (a0.fClasses.length : Int))::(dB v1)::(dB v1)::u22 []), [(b11_0 a0), (.cells [(dI 0), (dI 0)])]⟩) ?_ fun G11g2 => Ops.sx (G11g2 (decide ((a0.fClasses.length : Int) < 1)) h)
 intro v1 h
 cases v1
 ·refine Ops.sg 2 7 ?_
  refine Ops.on 8 (fun h0 e0 => (len_r (T := T) h0 22 45 .plain e44 a0.fClasses (by kernel_rfl))) ?_
  refine Ops.sg 2 10 ?_
  exact Ops.sx (J11j9 (.ptr 0 0) (dP e44 a0.fClasses) (dI (a0.fClasses.length : Int)) (dB (decide ((a0.fClasses.length : Int) > 40))) false (decide ((a0.fClasses.length : Int) > 40)) h)
 ·refine Ops.sg 5 10 ?_
  exact Ops.sx (J11j9 U U U U true true h)
def f29 (m : Nat) (a0 a1 : ByteArray) : Option (ByteArray × Bool) := some (cutPre a0 a1)
theorem ok29 (m : Nat) (a0 a1 : ByteArray) (o : (ByteArray × Bool)) (h : f29 m a0 a1 = some o) (n : Nat) (hn : m + 1 ≤ n) : Fn Proofs.Tryz.prog E n 29 [.v (eS a0), .v (eS a1)] (.tuple [eS o.1, eB o.2]) := by
 obtain ⟨n, rfl⟩ : ∃ q, n = q + 1 := ⟨n - 1, by omega⟩
 refine ora_fn (xs := [eS a0, eS a1]) (by kernel_rfl) (by kernel_rfl) (by kernel_rfl) (F := cutpF) ?_ rfl
 cases h
 rfl
def f44 (m : Nat) (a0 a1 : ByteArray) : Option (ByteArray × ByteArray × Bool) := cutQ a0 a1
theorem ok44 (m : Nat) (a0 a1 : ByteArray) (o : (ByteArray × ByteArray × Bool)) (h : f44 m a0 a1 = some o) (n : Nat) (hn : m + 1 ≤ n) : Fn Proofs.Tryz.prog E n 44 [.v (eS a0), .v (eS a1)] (.tuple [eS o.1, eS o.2.1, eB o.2.2]) := by
 obtain ⟨n, rfl⟩ : ∃ q, n = q + 1 := ⟨n - 1, by omega⟩
 refine ora_fn (xs := [eS a0, eS a1]) (by kernel_rfl) (by kernel_rfl) (by kernel_rfl) (F := cutF3) ?_ rfl
 exact cutF3_ok h
def f28 (m : Nat) (a0 a1 : ByteArray) : Option (List ByteArray) := splitQ a0 a1
theorem ok28 (m : Nat) (a0 a1 : ByteArray) (o : (List ByteArray)) (h : f28 m a0 a1 = some o) (n : Nat) (hn : m + 1 ≤ n) : Fn Proofs.Tryz.prog E n 28 [.v (eS a0), .v (eS a1)] ((eL eS) o) := by
 obtain ⟨n, rfl⟩ : ∃ q, n = q + 1 := ⟨n - 1, by omega⟩
 refine ora_fn (xs := [eS a0, eS a1]) (by kernel_rfl) (by kernel_rfl) (by kernel_rfl) (F := splitF) ?_ rfl
 exact splitF_ok h
def f45 (m : Nat) (a0 : ByteArray) : Option (Int × Bool) := numQ a0
theorem ok45 (m : Nat) (a0 : ByteArray) (o : (Int × Bool)) (h : f45 m a0 = some o) (n : Nat) (hn : m + 1 ≤ n) : Fn Proofs.Tryz.prog E n 45 [.v (eS a0)] (.tuple [eI o.1, eB o.2]) := by
 obtain ⟨n, rfl⟩ : ∃ q, n = q + 1 := ⟨n - 1, by omega⟩
 refine ora_fn (xs := [eS a0]) (by kernel_rfl) (by kernel_rfl) (by kernel_rfl) (F := numF) ?_ rfl
 exact numF_ok h
def f30_r1 (m : Nat) (v2 v3 : (ByteArray × ByteArray × Bool)) (v8 : (List ByteArray)) (v12 v13 : (Int × Bool)) (v18 : Bool) : Option (S46 × Bool) :=
 some (((⟨v2.1, v3.1, v8, v12.1, v13.1⟩ : S46), v18))
def f30_j2 (m : Nat) (v2 v3 v4 : (ByteArray × ByteArray × Bool)) (v8 : (List ByteArray)) : Option (S46 × Bool) :=
 bnd (f44 m v4.2.1 (⟨#[32]⟩ : ByteArray)) fun v11 =>
 cnd (!v11.2.2)
 (some (((⟨v2.1, v3.1, v8, 0, 0⟩ : S46), false)))
 (bnd (f45 m v11.1) fun v12 =>
 bnd (f45 m v11.2.1) fun v13 =>
 f30_r1 m v2 v3 v8 v12 v13 (v12.2 && v13.2))
def f30 (m : Nat) (a0 : ByteArray) : Option (S46 × Bool) :=
 bnd (f29 m a0 (⟨#[40]⟩ : ByteArray)) fun v1 =>
 cnd (!v1.2)
 (some (((⟨ByteArray.empty, ByteArray.empty, [], 0, 0⟩ : S46), false)))
 (bnd (f44 m v1.1 ((⟨#[41, 40]⟩ : ByteArray))) fun v2 =>
 cnd (!v2.2.2)
 (some (((⟨v2.1, ByteArray.empty, [], 0, 0⟩ : S46), false)))
 (bnd (f44 m v2.2.1 ((⟨#[41, 91]⟩ : ByteArray))) fun v3 =>
 cnd (!v3.2.2)
 (some (((⟨v2.1, v3.1, [], 0, 0⟩ : S46), false)))
 (bnd (f44 m v3.2.1 ((⟨#[93, 32]⟩ : ByteArray))) fun v4 =>
 cnd (!v4.2.2)
 (some (((⟨v2.1, v3.1, [], 0, 0⟩ : S46), false)))
 (cnd (!(v4.1.toList == (⟨#[]⟩ : ByteArray).toList))
 (bnd (f28 m v4.1 (⟨#[44]⟩ : ByteArray)) fun v20 =>
 f30_j2 m v2 v3 v4 v20)
 (f30_j2 m v2 v3 v4 [])))))
noncomputable abbrev X30 (n : Nat) : Cx := cxOf Proofs.Tryz.prog E 30 n
noncomputable def C30 : Code := bodyOf Proofs.Tryz.prog 30
abbrev b30_0 : AObj := .cells [(.v (.str ByteArray.empty)), (.v (.str ByteArray.empty)), (.v (.sl .nil (List.map eS []))), (dI 0), (dI 0)]
theorem ok30 (m : Nat) (a0 : ByteArray) (o : (S46 × Bool)) (h : f30 m a0 = some o) (n : Nat) (hn : m + 2 ≤ n) : Fn Proofs.Tryz.prog E n 30 [.v (eS a0)] (.tuple [e46 o.1, eB o.2]) := by
 obtain ⟨n, rfl⟩ : ∃ q, n = q + 1 := ⟨n - 1, by omega⟩
 unfold f30 at h
 refine Fn.of (by kernel_rfl) (by kernel_rfl) (by kernel_rfl) ⟨(.v (.str a0))::u40 (u37 []), []⟩ (by kernel_rfl) (Wp.sq (Wp.rg (Ops.sg 2 2 (Ops.dn (seqQ.n (Wp.sq (Wp.rg (Ops.sg 1 1 (Ops.dn (seqQ.n (Wp.sq (Wp.rg (Ops.sg 1 1 (Ops.dn (seqQ.n (Wp.sq (Wp.sq (Wp.rg (Ops.sg 1 1 ?_)))))))))))))))))))
 obtain ⟨v1, ev1, h⟩ := bnd_some h
 refine Ops.on 2 (fun h0 e0 => (call_ok (E' := E) (h := h0) (by kernel_rfl) (Args.v (.str a0) (eS a0) (by kernel_rfl) (Args.v (.str (⟨#[40]⟩ : ByteArray)) (eS (⟨#[40]⟩ : ByteArray)) (by kernel_rfl) Args.nil)) (ok29 m a0 (⟨#[40]⟩ : ByteArray) v1 ev1 n (by omega)))) ?_
 refine Ops.sg 5 7 (Ops.dn (seqQ.n (Wp.sq (Wp.rg (Ops.sg 2 2 (Ops.dn (seqQ.n ?_)))))))
 refine Wp.cd h [0, 2, 3, 4] 2 (fun h => ?_) (fun h => ?_)
 ·refine Wp.sq (Wp.rg (Ops.sg 3 3 (Ops.dn (seqQ.n (Wp.rt (sqQ.r (seqQ.r ?_)))))))
  exact fnQ.r' (X30 n) (fun z => (.tuple [e46 z.1, eB z.2])) h (RetOk.mk' (.v (.tuple [(.agg [(.str ByteArray.empty), (.str ByteArray.empty), (.sl .nil (List.map eS [])), (vI 0), (vI 0)]), (vB false)])) (by kernel_rfl) (by kernel_rfl))
 ·refine Wp.sk (sqQ.n' (seqQ.n (Wp.sq (Wp.sq (Wp.rg (Ops.sg 1 1 ?_))))))
  obtain ⟨v2, ev2, h⟩ := bnd_some h
  refine Ops.on 2 (fun h0 e0 => (call_ok (E' := E) (h := h0) (by kernel_rfl) (Args.v (.str v1.1) (eS v1.1) (by kernel_rfl) (Args.v (.str ((⟨#[41, 40]⟩ : ByteArray))) (eS ((⟨#[41, 40]⟩ : ByteArray))) (by kernel_rfl) Args.nil)) (ok44 m v1.1 ((⟨#[41, 40]⟩ : ByteArray)) v2 ev2 n (by omega)))) ?_
  refine Ops.sg 8 10 (Ops.dn (seqQ.n (Wp.sq (Wp.rg (Ops.sg 2 2 (Ops.dn (seqQ.n ?_)))))))
  refine Wp.cd h [0, 2, 3, 4] 2 (fun h => ?_) (fun h => ?_)
  ·refine Wp.sq (Wp.rg (Ops.sg 3 3 (Ops.dn (seqQ.n (Wp.rt (sqQ.r (seqQ.r ?_)))))))
   exact fnQ.r' (X30 n) (fun z => (.tuple [e46 z.1, eB z.2])) h (RetOk.mk' (.v (.tuple [(.agg [(.str v2.1), (.str ByteArray.empty), (.sl .nil (List.map eS [])), (vI 0), (vI 0)]), (vB false)])) (by kernel_rfl) (by kernel_rfl))
  ·refine Wp.sk (sqQ.n' (seqQ.n (Wp.sq (Wp.sq (Wp.rg (Ops.sg 1 1 ?_))))))
   obtain ⟨v3, ev3, h⟩ := bnd_some h
   refine Ops.on 2 (fun h0 e0 => (call_ok (E' := E) (h := h0) (by kernel_rfl) (Args.v (.str v2.2.1) (eS v2.2.1) (by kernel_rfl) (Args.v (.str ((⟨#[41, 91]⟩ : ByteArray))) (eS ((⟨#[41, 91]⟩ : ByteArray))) (by kernel_rfl) Args.nil)) (ok44 m v2.2.1 ((⟨#[41, 91]⟩ : ByteArray)) v3 ev3 n (by omega)))) ?_
   refine Ops.seg 8 10 (by kernel_rfl) ⟨(.v (.str v3.2.1))::u1 ((.ptr 0 0)::(dB false)::(.ptr 1 0)::(dB v3.2.2)::u4 ((.v (.tuple [(.str v1.1), (vB v1.2)]))::(.v (.str a0))::(.v (.tuple [(.str v1.1), (vB v1.2)]))::(.v (.str v1.1))::(dB v1.2)::(dB v1.2)::(dB (!v1.2))::u1 ((.v (.tuple [(.str v2.1), (.str v2.2.1), (vB v2.2.2)]))::(.v (.str v1.1))::(.v (.tuple [(.str v2.1), (.str v2.2.1), (vB v2.2.2)]))::(.v (.str v2.1))::(.v (.str v2.2.1))::(dB v2.2.2)::(.ptr 1 0)::(dB v2.2.2)::(dB (!v2.2.2))::u1 ((.v (.tuple [(.str v3.1), (.str v3.2.1), (vB v3.2.2)]))::(.v (.str v2.2.1))::(.v (.tuple [(.str v3.1), (.str v3.2.1), (vB v3.2.2)]))::(.v (.str v3.1))::(.v (.str v3.2.1))::(dB v3.2.2)::(.ptr 1 1)::u40 (u3 []))))), [b30_0, (.cells [(.v (.str v2.1)), (.v (.str v3.1)), (.v (.sl .nil (List.map eS []))), (dI 0), (dI 0)])]⟩ (by kernel_rfl) (Ops.dn (seqQ.n (Wp.sq (Wp.rg (Ops.sg 2 2 (Ops.dn (seqQ.n ?_)))))))
   refine Wp.cd h [0, 2, 3, 4] 2 (fun h => ?_) (fun h => ?_)
   ·refine Wp.sq (Wp.rg (Ops.sg 3 3 (Ops.dn (seqQ.n (Wp.rt (sqQ.r (seqQ.r ?_)))))))
    exact fnQ.r' (X30 n) (fun z => (.tuple [e46 z.1, eB z.2])) h (RetOk.mk' (.v (.tuple [(.agg [(.str v2.1), (.str v3.1), (.sl .nil (List.map eS [])), (vI 0), (vI 0)]), (vB false)])) (by kernel_rfl) (by kernel_rfl))
   ·refine Wp.sk (sqQ.n' (seqQ.n (Wp.sq (Wp.rg (Ops.sg 1 1 ?_)))))
    obtain ⟨v4, ev4, h⟩ := bnd_some h
    refine Ops.on 2 (fun h0 e0 => (call_ok (E' := E) (h := h0) (by kernel_rfl) (Args.v (.str v3.2.1) (eS v3.2.1) (by kernel_rfl) (Args.v (.str ((⟨#[93, 32]⟩ : ByteArray))) (eS ((⟨#[93, 32]⟩ : ByteArray))) (by kernel_rfl) Args.nil)) (ok44 m v3.2.1 ((⟨#[93, 32]⟩ : ByteArray)) v4 ev4 n (by omega)))) ?_
    refine Ops.sg 7 9 (Ops.dn (seqQ.n (Wp.sq (Wp.sq (Wp.rg (Ops.sg 2 2 (Ops.dn (seqQ.n ?_))))))))
    refine Wp.cd h [0, 2, 3, 4, 6] 2 (fun h => ?_) (fun h => ?_)
    ·refine Wp.sq (Wp.rg (Ops.sg 3 3 (Ops.dn (seqQ.n (Wp.rt (sqQ.r (seqQ.r ?_)))))))
     exact fnQ.r' (X30 n) (fun z => (.tuple [e46 z.1, eB z.2])) h (RetOk.mk' (.v (.tuple [(.agg [(.str v2.1), (.str v3.1), (.sl .nil (List.map eS [])), (vI 0), (vI 0)]), (vB false)])) (by kernel_rfl) (by kernel_rfl))
    ·refine Wp.sk (sqQ.n' (seqQ.n (Wp.sq (Wp.sq (Wp.rg (Ops.sg 2 2 (Ops.dn (seqQ.n ?_))))))))
     have J30j10 : ∀ (v8 : (List ByteArray)) (d5 d6 d7 : D) (fl9 : SFlag), f30_j2 m v2 v3 v4 v8 = some o → (seqQ (X30 n) (cR (cR (cR (cR (cR (cR (cR (cR (cR C30))))))))) (fnQ (X30 n).E.T (resOf Proofs.Tryz.prog 30) (.tuple [e46 o.1, eB o.2]))) .normal ⟨Zs4 v4.2.1 v4.2.2 v4.1 (.v (.tuple [(.str v1.1), (vB v1.2)])) a0 v1.1 v1.2 (!v1.2) (.v (.tuple [(.str v2.1), (.str v2.2.1), (vB v2.2.2)])) v2.1 v2.2.1 v2.2.2 (!v2.2.2) (.v (.tuple [(.str v3.1), (.str v3.2.1), (vB v3.2.2)])) v3.1 v3.2.1 v3.2.2 (!v3.2.2) (.v (.tuple [(.str v4.1), (.str v4.2.1), (vB v4.2.2)])) (!v4.2.2) ((dB (!(v4.1.toList == (⟨#[]⟩ : ByteArray).toList)))::d5::d6::d7::u26 []), [b30_0, (.cells [(.v (.str v2.1)), (.v (.str v3.1)), (.v (.sl fl9 (List.map eS v8))), (dI 0), (dI 0)])]⟩ := by
      intro v8 d5 d6 d7 fl9 h
      unfold f30_j2 at h
      refine seqQ.n (Wp.sq (Wp.rg (Ops.sg 1 1 ?_)))
      obtain ⟨v11, ev11, h⟩ := bnd_some h
      refine Ops.on 2 (fun h0 e0 => (call_ok (E' := E) (h := h0) (by kernel_rfl) (Args.v (.str v4.2.1) (eS v4.2.1) (by kernel_rfl) (Args.v (.str (⟨#[32]⟩ : ByteArray)) (eS (⟨#[32]⟩ : ByteArray)) (by kernel_rfl) Args.nil)) (ok44 m v4.2.1 (⟨#[32]⟩ : ByteArray) v11 ev11 n (by omega)))) ?_
      refine Ops.sg 7 9 (Ops.dn (seqQ.n (Wp.sq (Wp.sq (Wp.rg (Ops.sg 2 2 (Ops.dn (seqQ.n ?_))))))))
      refine Wp.cd h [2, 3, 4, 7, 8] 2 (fun h => ?_) (fun h => ?_)
      ·refine Wp.sq (Wp.rg (Ops.sg 3 3 (Ops.dn (seqQ.n (Wp.rt (sqQ.r (seqQ.r ?_)))))))
       exact fnQ.r' (X30 n) (fun z => (.tuple [e46 z.1, eB z.2])) h (RetOk.mk' (.v (.tuple [(.agg [(.str v2.1), (.str v3.1), (.sl fl9 (List.map eS v8)), (vI 0), (vI 0)]), (vB false)])) (by kernel_rfl) (by kernel_rfl))
      ·refine Wp.sk (sqQ.n' (seqQ.n (Wp.sq (Wp.rg (Ops.sg 1 1 (Ops.dn (seqQ.n (Wp.sq (Wp.rg (Ops.sg 1 1 ?_))))))))))
       obtain ⟨v12, ev12, h⟩ := bnd_some h
       refine Ops.on 2 (fun h0 e0 => (call_ok (E' := E) (h := h0) (by kernel_rfl) (Args.v (.str v11.1) (eS v11.1) (by kernel_rfl) Args.nil) (ok45 m v11.1 v12 ev12 n (by omega)))) ?_
       refine Ops.sg 6 8 (Ops.dn (seqQ.n (Wp.sq (Wp.rg (Ops.sg 1 1 ?_)))))
       obtain ⟨v13, ev13, h⟩ := bnd_some h
       refine Ops.on 2 (fun h0 e0 => (call_ok (E' := E) (h := h0) (by kernel_rfl) (Args.v (.str v11.2.1) (eS v11.2.1) (by kernel_rfl) Args.nil) (ok45 m v11.2.1 v13 ev13 n (by omega)))) ?_
       refine Ops.sg 6 8 (Ops.dn (seqQ.n (Wp.sq (Wp.rg (Ops.sg 3 3 ?_)))))
       refine Ops.hv (fun KQ => ∀ (d16 : D) (v17 v18 : Bool), f30_r1 m v2 v3 v8 v12 v13 v18 = some o → KQ 5 ⟨Zs5 v4.2.1 v17 v4.1 v11.1 v11.2.1 v13.2 (.v (.tuple [(.str v1.1), (vB v1.2)])) a0 v1.1 v1.2 (!v1.2) (.v (.tuple [(.str v2.1), (.str v2.2.1), (vB v2.2.2)])) v2.1 v2.2.1 v2.2.2 (!v2.2.2) (.v (.tuple [(.str v3.1), (.str v3.2.1), (vB v3.2.2)])) v3.1 v3.2.1 v3.2.2 (!v3.2.2) (.v (.tuple [(.str v4.1), (.str v4.2.1), (vB v4.2.2)])) v4.2.2 (!v4.2.2) (!(v4.1.toList == (⟨#[]⟩ : ByteArray).toList)) d5 d6 d7 (.v (.tuple [(.str v11.1), (.str v11.2.1), (vB v11.2.2)])) v11.2.2 (!v11.2.2) (.v (.tuple [(vI v12.1), (vB v12.2)])) v12.1 (.v (.tuple [(vI v13.1), (vB v13.2)])) v13.1 (.v (.agg [(.str v2.1), (.str v3.1), (.sl fl9 (List.map eS v8)), (vI v12.1), (vI v13.1)])) (d16::(dB v18)::[]), [b30_0, (.cells [(.v (.str v2.1)), (.v (.str v3.1)), (.v (.sl fl9 (List.map eS v8))), (dI v12.1), (dI v13.1)])]⟩) ?_ fun J30j19 => ?_
       ·intro d16 v17 v18 h
        unfold f30_r1 at h
        refine Ops.sg 2 7 (Ops.dn (seqQ.n (Wp.rt ?_)))
        exact fnQ.r' (X30 n) (fun z => (.tuple [e46 z.1, eB z.2])) h (RetOk.mk' (.v (.tuple [(.agg [(.str v2.1), (.str v3.1), (.sl fl9 (List.map eS v8)), (vI v12.1), (vI v13.1)]), (vB v18)])) (by kernel_rfl) (by kernel_rfl))
       refine Ops.hv (fun KQ => ∀ v14 : Bool, f30_r1 m v2 v3 v8 v12 v13 (v14 && v13.2) = some o → KQ 3 ⟨Zs5 v4.2.1 v14 v4.1 v11.1 v11.2.1 v13.2 (.v (.tuple [(.str v1.1), (vB v1.2)])) a0 v1.1 v1.2 (!v1.2) (.v (.tuple [(.str v2.1), (.str v2.2.1), (vB v2.2.2)])) v2.1 v2.2.1 v2.2.2 (!v2.2.2) (.v (.tuple [(.str v3.1), (.str v3.2.1), (vB v3.2.2)])) v3.1 v3.2.1 v3.2.2 (!v3.2.2) (.v (.tuple [(.str v4.1), (.str v4.2.1), (vB v4.2.2)])) v4.2.2 (!v4.2.2) (!(v4.1.toList == (⟨#[]⟩ : ByteArray).toList)) d5 d6 d7 (.v (.tuple [(.str v11.1), (.str v11.2.1), (vB v11.2.2)])) v11.2.2 (!v11.2.2) (.v (.tuple [(vI v12.1), (vB v12.2)])) v12.1 (.v (.tuple [(vI v13.1), (vB v13.2)])) v13.1 (.v (.agg [(.str v2.1), (.str v3.1), (.sl fl9 (List.map eS v8)), (vI v12.1), (vI v13.1)])) (u2 []), [b30_0, (.cells [(.v (.str v2.1)), (.v (.str v3.1)), (.v (.sl fl9 (List.map eS v8))), (dI v12.1), (dI v13.1)])]⟩) ?_ fun G30g15 => Ops.sx (G30g15 v12.2 h)
       intro v14 h
       cases v14
       ·refine Ops.sg 2 5 ?_
        exact Ops.sx (J30j19 U false false h)
       ·refine Ops.sg 2 5 ?_
        exact Ops.sx (J30j19 (dB v13.2) true v13.2 h)
     refine Wp.cd h [0, 2, 3, 4] 2 (fun h => ?_) (fun h => ?_)
     ·refine Wp.rg (Ops.sg 1 1 ?_)
      obtain ⟨v20, ev20, h⟩ := bnd_some h
      refine Ops.on 2 (fun h0 e0 => (call_ok (E' := E) (h := h0) (by kernel_rfl) (Args.v (.str v4.1) (eS v4.1) (by kernel_rfl) (Args.v (.str (⟨#[44]⟩ : ByteArray)) (eS (⟨#[44]⟩ : ByteArray)) (by kernel_rfl) Args.nil)) (ok28 m v4.1 (⟨#[44]⟩ : ByteArray) v20 ev20 n (by omega)))) ?_
      refine Ops.sg 2 4 (Ops.dn (sqQ.m ⟨Zs4 v4.2.1 v4.2.2 v4.1 (.v (.tuple [(.str v1.1), (vB v1.2)])) a0 v1.1 v1.2 (!v1.2) (.v (.tuple [(.str v2.1), (.str v2.2.1), (vB v2.2.2)])) v2.1 v2.2.1 v2.2.2 (!v2.2.2) (.v (.tuple [(.str v3.1), (.str v3.2.1), (vB v3.2.2)])) v3.1 v3.2.1 v3.2.2 (!v3.2.2) (.v (.tuple [(.str v4.1), (.str v4.2.1), (vB v4.2.2)])) (!v4.2.2) ((dB (!(v4.1.toList == (⟨#[]⟩ : ByteArray).toList)))::(.v (.str v4.1))::(dP eS v20)::(.ptr 1 2)::u26 []), [b30_0, (.cells [(.v (.str v2.1)), (.v (.str v3.1)), (dP eS v20), (dI 0), (dI 0)])]⟩ ?_))
      exact J30j10 v20 _ _ _ _ h
     ·refine Wp.sk (sqQ.m ⟨Zs4 v4.2.1 v4.2.2 v4.1 (.v (.tuple [(.str v1.1), (vB v1.2)])) a0 v1.1 v1.2 (!v1.2) (.v (.tuple [(.str v2.1), (.str v2.2.1), (vB v2.2.2)])) v2.1 v2.2.1 v2.2.2 (!v2.2.2) (.v (.tuple [(.str v3.1), (.str v3.2.1), (vB v3.2.2)])) v3.1 v3.2.1 v3.2.2 (!v3.2.2) (.v (.tuple [(.str v4.1), (.str v4.2.1), (vB v4.2.2)])) (!v4.2.2) ((dB (!(v4.1.toList == (⟨#[]⟩ : ByteArray).toList)))::u29 []), [b30_0, (.cells [(.v (.str v2.1)), (.v (.str v3.1)), (.v (.sl .nil (List.map eS []))), (dI 0), (dI 0)])]⟩ ?_)
      exact J30j10 [] _ _ _ _ h
def f12_B1 (m : Nat) (a0 a1 : (List ByteArray)) (v6 : Int) : Option (Stp Bool (Int)) :=
 cnd (decide (v6 < (a0.length : Int)))
 (bnd (idx a0 v6) fun v16 =>
 bnd (idx a1 v6) fun v17 =>
 cnd (!(v16.toList == v17.toList))
 (some (.ret false))
 (some (.nxt (w64 (v6 + 1)))))
 (some (.brk v6))
def f12 (m : Nat) (a0 a1 : (List ByteArray)) : Option Bool :=
 cnd ((a0.length : Int) != (a1.length : Int))
 (some false)
 (brk (iter (fun (y : Int) => f12_B1 m a0 a1 y) m 0) some fun y19 =>
 some true)
noncomputable abbrev X12 (n : Nat) : Cx := cxOf Proofs.Tryz.prog E 12 n
noncomputable def C12 : Code := bodyOf Proofs.Tryz.prog 12
theorem ok12 (m : Nat) (a0 a1 : (List ByteArray)) (o : Bool) (h : f12 m a0 a1 = some o) (n : Nat) (hn : m + 1 ≤ n) : Fn Proofs.Tryz.prog E n 12 [.v ((eL eS) a0), .v ((eL eS) a1)] (eB o) := by
 obtain ⟨n, rfl⟩ : ∃ q, n = q + 1 := ⟨n - 1, by omega⟩
 unfold f12 at h
 refine Fn.of (by kernel_rfl) (by kernel_rfl) (by kernel_rfl) ⟨(dP eS a0)::(dP eS a1)::u24 [], []⟩ (by kernel_rfl) (Wp.sq (Wp.rg (Ops.sg 1 1 (Ops.dn (seqQ.n (Wp.sq (Wp.sq (Wp.rg (Ops.sg 1 1 ?_)))))))))
 refine Ops.on 2 (fun h0 e0 => (len_r (T := T) h0 29 9 .plain eS a0 (by kernel_rfl))) ?_
 refine Ops.sg 1 3 ?_
 refine Ops.on 4 (fun h0 e0 => (len_r (T := T) h0 29 9 .plain eS a1 (by kernel_rfl))) ?_
 refine Ops.sg 1 5 (Ops.dn (seqQ.n ?_))
 refine Wp.cd h [0, 1, 4] 0 (fun h => ?_) (fun h => ?_)
 ·refine Wp.sq (Wp.rg (Ops.sg 1 1 (Ops.dn (seqQ.n (Wp.rt (sqQ.r (seqQ.r ?_)))))))
  exact fnQ.r' (X12 n) (fun z => (eB z)) h (RetOk.mk' (dB false) (by kernel_rfl) (by kernel_rfl))
 ·refine Wp.sk (sqQ.n' (seqQ.n (Wp.sq (Wp.sq (Wp.rg (Ops.sg 1 1 ?_))))))
  refine Ops.on 2 (fun h0 e0 => (len_r (T := T) h0 29 9 .plain eS a0 (by kernel_rfl))) ?_
  refine Ops.sg 1 3 (Ops.dn (seqQ.n (Wp.bk 0 [4] 0 ?_)))
  have hLx18 : ∀ (kx8 : Nat) (v6 : Int)  (ox7 : Bool ⊕ (Int)), iter (fun (y : Int) => f12_B1 m a0 a1 y) kx8 v6 = some ox7 → ∀ nx9, kx8 ≤ nx9 → (∀ r, ox7 = .inl r → ∀ σ, RetOk (X12 n) (resOf Proofs.Tryz.prog 12) (eB r) σ → (seqQ (X12 n) (cR (cR (cR C12))) (fnQ (X12 n).E.T (resOf Proofs.Tryz.prog 12) (eB o))) .ret σ) → (∀ (y : Int) , ox7 = .inr y → (seqQ (X12 n) (cR (cR (cR C12))) (fnQ (X12 n).E.T (resOf Proofs.Tryz.prog 12) (eB o))) .normal ⟨Zs33 a0 a1 (a0.length : Int) ((dI y)::q12 []), []⟩) → Lp (X12 n) [0, 1, 4, 12, 13] 0 (cL (cL (cR (cL (cR (cR C12)))))) nx9 ⟨Zs33 a0 a1 (a0.length : Int) ((dI v6)::q12 []), []⟩ (blkQ (X12 n) 0 [4] 0 (seqQ (X12 n) (cR (cR (cR C12))) (fnQ (X12 n).E.T (resOf Proofs.Tryz.prog 12) (eB o)))) := by
   intro kx8
   induction kx8 with
   | zero => intro v6  ox7 h; exact (iter_zero h).elim
   | succ kx8 ihx10 =>
    intro v6  ox7 h nx9 hnx13 hrx11 hxx12
    obtain ⟨nx9, rfl⟩ : ∃ q, nx9 = q + 1 := ⟨nx9 - 1, by omega⟩
    obtain ⟨sx14, h, hsx15⟩ := iter_some h
    have h : f12_B1 m a0 a1 v6 = some sx14 := h
    unfold f12_B1 at h
    refine Lp.succ (Wp.sq (Wp.rg (Ops.sg 1 1 (Ops.dn (seqQ.n (Wp.sq ?_))))))
    refine Wp.cd h [0, 1, 4, 12, 13] 0 (fun h => ?_) (fun h => ?_)
    ·refine Wp.sk (sqQ.n' (seqQ.n (Wp.sq (Wp.bk 1 [0, 1, 4, 12, 13] 0 (Wp.sq (Wp.rg (Ops.sg 2 2 (Ops.dn (seqQ.n (Wp.sq (Wp.rg (Ops.sg 2 2 ?_))))))))))))
     obtain ⟨v16, ev16, h⟩ := bnd_some h
     refine Ops.on 3 (fun h0 e0 => (ix_r (T := T) h0 29 9 1 .plain eS a0 v6 v16 ev16 (by kernel_rfl) (by kernel_rfl) (fun _ => rfl))) ?_
     refine Ops.sg 3 6 ?_
     obtain ⟨v17, ev17, h⟩ := bnd_some h
     refine Ops.on 7 (fun h0 e0 => (ix_r (T := T) h0 29 9 1 .plain eS a1 v6 v17 ev17 (by kernel_rfl) (by kernel_rfl) (fun _ => rfl))) ?_
     refine Ops.sg 2 9 (Ops.dn (seqQ.n ?_))
     refine Wp.cd h [0, 1, 4, 12, 13] 0 (fun h => ?_) (fun h => ?_)
     ·refine Wp.sq (Wp.rg (Ops.sg 1 1 (Ops.dn (seqQ.n (Wp.rt (sqQ.r (blkQ.r (seqQ.r ?_))))))))
      cases h
      refine lpQ.r (blkQ.r ?_)
      exact hrx11 _ hsx15 _ (RetOk.forget [0, 1, 4, 12, 13] (by kernel_rfl) (RetOk.mk' (dB false) (by kernel_rfl) (by kernel_rfl)))
     ·refine Wp.sk (sqQ.n' (blkQ.n' (seqQ.n (Wp.rg (Ops.sg 2 2 (Ops.dn (lpQ.m ⟨Zs33 a0 a1 (a0.length : Int) ((dI (w64 (v6 + 1)))::q12 []), []⟩ ?_)))))))
      cases h
      exact ihx10 (w64 (v6 + 1))  _ hsx15 _ (by omega) hrx11 hxx12
    ·refine Wp.ex 0 (sqQ.x (seqQ.x ?_))
     cases h
     refine lpQ.x (blkQ.w ⟨Zs33 a0 a1 (a0.length : Int) ((dI v6)::q12 []), []⟩ ?_)
     exact hxx12 v6  hsx15
  refine Wp.loop' [0, 1, 4, 12, 13] 0 (by kernel_rfl) ⟨Zs33 a0 a1 (a0.length : Int) ((dI 0)::q12 []), []⟩ (by kernel_rfl) ?_
  rcases brk_some h with ⟨r20, er20, h⟩ | ⟨y19, ey19, h⟩
  ·refine hLx18 _ 0  _ er20 n (by omega) (fun r er σ hσ => ?_) (fun y  ey => by cases ey)
   cases er
   refine seqQ.r ?_
   exact fnQ.r' (X12 n) (fun z => (eB z)) h hσ
  ·refine hLx18 _ 0  _ ey19 n (by omega) (fun r er => by cases er) (fun y  ey => ?_)
   cases ey
   refine seqQ.n (Wp.sq (Wp.rg (Ops.sg 1 1 (Ops.dn (seqQ.n (Wp.rt ?_))))))
   exact fnQ.r' (X12 n) (fun z => (eB z)) h (RetOk.mk' (dB true) (by kernel_rfl) (by kernel_rfl))
def f18 (m : Nat) (a0 a1 : Int) : Option S26 :=
 some ((⟨a0, a1⟩ : S26))
noncomputable abbrev X18 (n : Nat) : Cx := cxOf Proofs.Tryz.prog E 18 n
theorem ok18 (m : Nat) (a0 a1 : Int) (o : S26) (h : f18 m a0 a1 = some o) (n : Nat) (hn : m + 1 ≤ n) : Fn Proofs.Tryz.prog E n 18 [.v (eI a0), .v (eI a1)] (e26 o) := by
 obtain ⟨n, rfl⟩ : ∃ q, n = q + 1 := ⟨n - 1, by omega⟩
 unfold f18 at h
 refine Fn.of (by kernel_rfl) (by kernel_rfl) (by kernel_rfl) ⟨(dI a0)::(dI a1)::u6 [], []⟩ (by kernel_rfl) (Wp.sq (Wp.rg (Ops.sg 1 1 (Ops.dn (seqQ.n (Wp.sq (Wp.rg (Ops.sg 4 4 (Ops.dn (seqQ.n (Wp.rt ?_)))))))))))
 exact fnQ.r' (X18 n) (fun z => (e26 z)) h (RetOk.mk' (.v (.agg [(vI a0), (vI a1)])) (by kernel_rfl) (by kernel_rfl))
def f19_r1 (m : Nat) (v96 : Int) (v137 : Bool) : Option (Stp Bool (Int)) :=
 cnd (!v137)
 (some (.ret false))
 (some (.nxt (w64 (v96 + 1))))
def f19_r2 (m : Nat) (v96 v106 : Int) (v130 : Bool) : Option (Stp Bool (Int)) :=
 f19_r1 m v96 (v130 || (v106 == 45))
def f19_r3 (m : Nat) (v96 v106 : Int) (v123 : Bool) : Option (Stp Bool (Int)) :=
 f19_r2 m v96 v106 (v123 || (v106 == 95))
def f19_r4 (m : Nat) (v96 v106 : Int) (v112 : Bool) : Option (Stp Bool (Int)) :=
 f19_r3 m v96 v106 (v112 || ((decide (v106 ≥ 48)) && (decide (v106 ≤ 57))))
def f19_B5 (m : Nat) (a0 : ByteArray) (v96 : Int) : Option (Stp Bool (Int)) :=
 cnd (decide (v96 < (a0.size : Int)))
 (bnd (sidx a0 v96) fun v106 =>
 f19_r4 m v96 v106 ((decide (v106 ≥ 97)) && (decide (v106 ≤ 122))))
 (some (.brk v96))
def f19_r6 (m : Nat) (a0 : ByteArray) (v23 : Bool) : Option Bool :=
 cnd v23
 (some false)
 (brk (iter (fun (y : Int) => f19_B5 m a0 y) m 0) some fun y142 =>
 some true)
def f19_r7 (m : Nat) (a0 : ByteArray) (v15 : Bool) : Option Bool :=
 bnd (cnd v15
 (some true)
 (bnd (sidx a0 0) fun v144 =>
 some (decide (v144 > 122)))) fun v23 =>
 f19_r6 m a0 v23
def f19_r8 (m : Nat) (a0 : ByteArray) (v7 : Bool) : Option Bool :=
 bnd (cnd v7
 (some true)
 (bnd (sidx a0 0) fun v145 =>
 some (decide (v145 < 97)))) fun v15 =>
 f19_r7 m a0 v15
def f19 (m : Nat) (a0 : ByteArray) : Option Bool :=
 f19_r8 m a0 (((a0.size : Int) == 0) || (decide ((a0.size : Int) > 30)))
noncomputable abbrev X19 (n : Nat) : Cx := cxOf Proofs.Tryz.prog E 19 n
noncomputable def C19 : Code := bodyOf Proofs.Tryz.prog 19
theorem ok19 (m : Nat) (a0 : ByteArray) (o : Bool) (h : f19 m a0 = some o) (n : Nat) (hn : m + 1 ≤ n) : Fn Proofs.Tryz.prog E n 19 [.v (eS a0)] (eB o) := by
 obtain ⟨n, rfl⟩ : ∃ q, n = q + 1 := ⟨n - 1, by omega⟩
 unfold f19 at h
 refine Fn.of (by kernel_rfl) (by kernel_rfl) (by kernel_rfl) ⟨(.v (.str a0))::u40 (u14 []), []⟩ (by kernel_rfl) (Wp.sq (Wp.rg (Ops.sg 1 1 (Ops.dn (seqQ.n (Wp.sq (Wp.sq (Wp.rg (Ops.sg 4 4 ?_)))))))))
 refine Ops.hv (fun KQ => ∀ (d3 d4 d5 : D) (v6 v7 : Bool), f19_r8 m a0 v7 = some o → KQ 8 ⟨Zs22 a0 (a0.size : Int) v6 (d3::d4::d5::(dB v7)::u40 (u2 [])), []⟩) ?_ fun J19j8 => ?_
 ·intro d3 d4 d5 v6 v7 h
  unfold f19_r8 at h
  refine Ops.sg 1 9 ?_
  refine Ops.hv (fun KQ => ∀ (d11 d12 d13 : D) (v14 v15 : Bool), f19_r7 m a0 v15 = some o → KQ 13 ⟨Zs22 a0 (a0.size : Int) v6 (d3::d4::d5::(dB v14)::(dB v14)::d11::d12::d13::(dB v15)::u37 []), []⟩) ?_ fun J19j16 => ?_
  ·intro d11 d12 d13 v14 v15 h
   unfold f19_r7 at h
   refine Ops.sg 1 14 ?_
   refine Ops.hv (fun KQ => ∀ (d19 d20 d21 : D) (v22 v23 : Bool), f19_r6 m a0 v23 = some o → KQ 18 ⟨Zs22 a0 (a0.size : Int) v6 (d3::d4::d5::(dB v14)::(dB v14)::d11::d12::d13::(dB v22)::(dB v22)::d19::d20::d21::(dB v23)::u32 []), []⟩) ?_ fun J19j24 => ?_
   ·intro d19 d20 d21 v22 v23 h
    unfold f19_r6 at h
    refine Ops.dn (seqQ.n ?_)
    refine Wp.cd h [0, 2] 0 (fun h => ?_) (fun h => ?_)
    ·refine Wp.sq (Wp.rg (Ops.sg 1 1 (Ops.dn (seqQ.n (Wp.rt (sqQ.r (seqQ.r ?_)))))))
     exact fnQ.r' (X19 n) (fun z => (eB z)) h (RetOk.mk' (dB false) (by kernel_rfl) (by kernel_rfl))
    ·refine Wp.sk (sqQ.n' (seqQ.n (Wp.sq (Wp.sq (Wp.rg (Ops.sg 1 1 (Ops.dn (seqQ.n (Wp.bk 0 [2] 0 ?_)))))))))
     have hLx141 : ∀ (kx98 : Nat) (v96 : Int)  (ox97 : Bool ⊕ (Int)), iter (fun (y : Int) => f19_B5 m a0 y) kx98 v96 = some ox97 → ∀ nx99, kx98 ≤ nx99 → (∀ r, ox97 = .inl r → ∀ σ, RetOk (X19 n) (resOf Proofs.Tryz.prog 19) (eB r) σ → (seqQ (X19 n) (cR (cR (cR C19))) (fnQ (X19 n).E.T (resOf Proofs.Tryz.prog 19) (eB o))) .ret σ) → (∀ (y : Int) , ox97 = .inr y → (seqQ (X19 n) (cR (cR (cR C19))) (fnQ (X19 n).E.T (resOf Proofs.Tryz.prog 19) (eB o))) .normal ⟨Zs23 a0 ((dI y)::q40 (q11 [])), []⟩) → Lp (X19 n) [0, 2, 3] 0 (cL (cL (cR (cL (cR (cR C19)))))) nx99 ⟨Zs23 a0 ((dI v96)::q40 (q11 [])), []⟩ (blkQ (X19 n) 0 [2] 0 (seqQ (X19 n) (cR (cR (cR C19))) (fnQ (X19 n).E.T (resOf Proofs.Tryz.prog 19) (eB o)))) := by
      intro kx98
      induction kx98 with
      | zero => intro v96  ox97 h; exact (iter_zero h).elim
      | succ kx98 ihx100 =>
       intro v96  ox97 h nx99 hnx103 hrx101 hxx102
       obtain ⟨nx99, rfl⟩ : ∃ q, nx99 = q + 1 := ⟨nx99 - 1, by omega⟩
       obtain ⟨sx104, h, hsx105⟩ := iter_some h
       have h : f19_B5 m a0 v96 = some sx104 := h
       unfold f19_B5 at h
       refine Lp.succ (Wp.sq (Wp.sq (Wp.rg (Ops.sg 4 4 (Ops.dn (seqQ.n ?_))))))
       refine Wp.cd h [0, 2, 3] 0 (fun h => ?_) (fun h => ?_)
       ·refine Wp.sk (sqQ.n' (seqQ.n (Wp.sq (Wp.bk 1 [0, 2, 3] 0 (Wp.sq (Wp.rg (Ops.sg 2 2 ?_)))))))
        obtain ⟨v106, ev106, h⟩ := bnd_some h
        refine Ops.on 3 (fun h0 e0 => (str_ix (T := T) h0 9 a0 v96 v106 ev106 (by kernel_rfl))) ?_
        refine Ops.sg 1 4 (Ops.dn (seqQ.n (Wp.sq (Wp.rg (Ops.sg 3 3 ?_)))))
        refine Ops.hv (fun KQ => ∀ (d109 d110 : D) (v111 v112 : Bool), f19_r4 m v96 v106 v112 = some sx104 → KQ 6 ⟨Zs3 a0 v96 (.v (.int .u8 v106)) (a0.size : Int) (decide (v96 < (a0.size : Int))) v111 (d109::d110::(dB v112)::q17 []), []⟩) ?_ fun J19j113 => ?_
        ·intro d109 d110 v111 v112 h
         unfold f19_r4 at h
         refine Ops.sg 1 7 ?_
         refine Ops.hv (fun KQ => ∀ (d116 d117 d118 d119 d120 d121 : D) (v122 v123 : Bool), f19_r3 m v96 v106 v123 = some sx104 → KQ 14 ⟨Zs3 a0 v96 (.v (.int .u8 v106)) (a0.size : Int) (decide (v96 < (a0.size : Int))) v111 (d109::d110::(dB v122)::(dB v122)::d116::d117::d118::d119::d120::d121::(dB v123)::q9 []), []⟩) ?_ fun J19j124 => ?_
         ·intro d116 d117 d118 d119 d120 d121 v122 v123 h
          unfold f19_r3 at h
          refine Ops.sg 1 15 ?_
          refine Ops.hv (fun KQ => ∀ (d127 d128 : D) (v129 v130 : Bool), f19_r2 m v96 v106 v130 = some sx104 → KQ 18 ⟨Zs3 a0 v96 (.v (.int .u8 v106)) (a0.size : Int) (decide (v96 < (a0.size : Int))) v111 (d109::d110::(dB v122)::(dB v122)::d116::d117::d118::d119::d120::d121::(dB v129)::(dB v129)::d127::d128::(dB v130)::q5 []), []⟩) ?_ fun J19j131 => ?_
          ·intro d127 d128 v129 v130 h
           unfold f19_r2 at h
           refine Ops.sg 1 19 ?_
           refine Ops.hv (fun KQ => ∀ (d134 d135 : D) (v136 v137 : Bool), f19_r1 m v96 v137 = some sx104 → KQ 22 ⟨Zs3 a0 v96 (.v (.int .u8 v106)) (a0.size : Int) (decide (v96 < (a0.size : Int))) v111 (d109::d110::(dB v122)::(dB v122)::d116::d117::d118::d119::d120::d121::(dB v129)::(dB v129)::d127::d128::(dB v136)::(dB v136)::d134::d135::(dB v137)::q1 []), []⟩) ?_ fun J19j138 => ?_
           ·intro d134 d135 v136 v137 h
            unfold f19_r1 at h
            refine Ops.sg 1 23 (Ops.dn (seqQ.n ?_))
            refine Wp.cd h [0, 2, 3] 0 (fun h => ?_) (fun h => ?_)
            ·refine Wp.sq (Wp.rg (Ops.sg 1 1 (Ops.dn (seqQ.n (Wp.rt (sqQ.r (blkQ.r (seqQ.r ?_))))))))
             cases h
             refine lpQ.r (blkQ.r ?_)
             exact hrx101 _ hsx105 _ (RetOk.forget [0, 2, 3] (by kernel_rfl) (RetOk.mk' (dB false) (by kernel_rfl) (by kernel_rfl)))
            ·refine Wp.sk (sqQ.n' (blkQ.n' (seqQ.n (Wp.rg (Ops.sg 3 3 (Ops.dn (lpQ.m ⟨Zs23 a0 ((dI (w64 (v96 + 1)))::q40 (q11 [])), []⟩ ?_)))))))
             cases h
             exact ihx100 (w64 (v96 + 1))  _ hsx105 _ (by omega) hrx101 hxx102
           refine Ops.hv (fun KQ => ∀ v132 : Bool, f19_r1 m v96 (v132 || (v106 == 45)) = some sx104 → KQ 19 ⟨Zs3 a0 v96 (.v (.int .u8 v106)) (a0.size : Int) (decide (v96 < (a0.size : Int))) v111 (d109::d110::(dB v122)::(dB v122)::d116::d117::d118::d119::d120::d121::(dB v129)::(dB v129)::d127::d128::(dB v132)::(dB v132)::q4 []), []⟩) ?_ fun G19g133 => Ops.sx (G19g133 v130 h)
           intro v132 h
           cases v132
           ·refine Ops.sg 3 22 ?_
            exact Ops.sx (J19j138 (.v (.int .u8 v106)) (dB (v106 == 45)) false (v106 == 45) h)
           ·refine Ops.sg 3 22 ?_
            exact Ops.sx (J19j138 U U true true h)
          refine Ops.hv (fun KQ => ∀ v125 : Bool, f19_r2 m v96 v106 (v125 || (v106 == 95)) = some sx104 → KQ 15 ⟨Zs3 a0 v96 (.v (.int .u8 v106)) (a0.size : Int) (decide (v96 < (a0.size : Int))) v111 (d109::d110::(dB v122)::(dB v122)::d116::d117::d118::d119::d120::d121::(dB v125)::(dB v125)::q8 []), []⟩) ?_ fun G19g126 => Ops.sx (G19g126 v123 h)
          intro v125 h
          cases v125
          ·refine Ops.sg 3 18 ?_
           exact Ops.sx (J19j131 (.v (.int .u8 v106)) (dB (v106 == 95)) false (v106 == 95) h)
          ·refine Ops.sg 3 18 ?_
           exact Ops.sx (J19j131 U U true true h)
         refine Ops.hv (fun KQ => ∀ v114 : Bool, f19_r3 m v96 v106 (v114 || ((decide (v106 ≥ 48)) && (decide (v106 ≤ 57)))) = some sx104 → KQ 7 ⟨Zs3 a0 v96 (.v (.int .u8 v106)) (a0.size : Int) (decide (v96 < (a0.size : Int))) v111 (d109::d110::(dB v114)::(dB v114)::q16 []), []⟩) ?_ fun G19g115 => Ops.sx (G19g115 v112 h)
         intro v114 h
         cases v114
         ·refine Ops.sg 3 10 ?_
          refine Ops.hv (fun KQ => ∀ v139 : Bool, (f19_r3 m v96 v106 (false || (v139 && (decide (v106 ≤ 57))))) = some sx104 → KQ 10 ⟨Zs3 a0 v96 (.v (.int .u8 v106)) (a0.size : Int) (decide (v96 < (a0.size : Int))) v111 (d109::d110::(dB false)::(dB false)::(.v (.int .u8 v106))::(dB v139)::(dB v139)::q13 []), []⟩) ?_ fun G19g140 => Ops.sx (G19g140 (decide (v106 ≥ 48)) h)
          intro v139 h
          cases v139
          ·refine Ops.sg 4 14 ?_
           exact Ops.sx (J19j124 (.v (.int .u8 v106)) (dB false) (dB false) U U (dB false) false false h)
          ·refine Ops.sg 4 14 ?_
           exact Ops.sx (J19j124 (.v (.int .u8 v106)) (dB true) (dB true) (.v (.int .u8 v106)) (dB (decide (v106 ≤ 57))) (dB (decide (v106 ≤ 57))) false (decide (v106 ≤ 57)) h)
         ·refine Ops.sg 7 14 ?_
          exact Ops.sx (J19j124 U U U U U U true true h)
        refine Ops.hv (fun KQ => ∀ v107 : Bool, f19_r4 m v96 v106 (v107 && (decide (v106 ≤ 122))) = some sx104 → KQ 3 ⟨Zs3 a0 v96 (.v (.int .u8 v106)) (a0.size : Int) (decide (v96 < (a0.size : Int))) v107 (q20 []), []⟩) ?_ fun G19g108 => Ops.sx (G19g108 (decide (v106 ≥ 97)) h)
        intro v107 h
        cases v107
        ·refine Ops.sg 3 6 ?_
         exact Ops.sx (J19j113 U U false false h)
        ·refine Ops.sg 3 6 ?_
         exact Ops.sx (J19j113 (.v (.int .u8 v106)) (dB (decide (v106 ≤ 122))) true (decide (v106 ≤ 122)) h)
       ·refine Wp.ex 0 (sqQ.x (seqQ.x ?_))
        cases h
        refine lpQ.x (blkQ.w ⟨Zs23 a0 ((dI v96)::q40 (q11 [])), []⟩ ?_)
        exact hxx102 v96  hsx105
     refine Wp.loop' [0, 2, 3] 0 (by kernel_rfl) ⟨Zs23 a0 ((dI 0)::q40 (q11 [])), []⟩ (by kernel_rfl) ?_
     rcases brk_some h with ⟨r143, er143, h⟩ | ⟨y142, ey142, h⟩
     ·refine hLx141 _ 0  _ er143 n (by omega) (fun r er σ hσ => ?_) (fun y  ey => by cases ey)
      cases er
      refine seqQ.r ?_
      exact fnQ.r' (X19 n) (fun z => (eB z)) h hσ
     ·refine hLx141 _ 0  _ ey142 n (by omega) (fun r er => by cases er) (fun y  ey => ?_)
      cases ey
      refine seqQ.n (Wp.sq (Wp.rg (Ops.sg 1 1 (Ops.dn (seqQ.n (Wp.rt ?_))))))
      exact fnQ.r' (X19 n) (fun z => (eB z)) h (RetOk.mk' (dB true) (by kernel_rfl) (by kernel_rfl))
   obtain ⟨v23, ev23, h⟩ := bnd_some h
   refine Ops.hv (fun KQ => ∀ v17 : Bool, (cnd v17 (some true) (bnd (sidx a0 0) fun v144 => some (decide (v144 > 122)))) = some v23 → KQ 14 ⟨Zs22 a0 (a0.size : Int) v6 (d3::d4::d5::(dB v14)::(dB v14)::d11::d12::d13::(dB v17)::(dB v17)::u36 []), []⟩) ?_ fun G19g18 => Ops.sx (G19g18 v15 ev23)
   intro v17 ev23
   cases v17
   ·have ev23 := cnd_f ev23
    refine Ops.sg 1 15 ?_
    obtain ⟨v144, ev144, ev23⟩ := bnd_some ev23
    refine Ops.on 16 (fun h0 e0 => (str_ix (T := T) h0 9 a0 0 v144 ev144 (by kernel_rfl))) ?_
    refine Ops.sg 2 18 ?_
    exact Ops.sx (J19j24 (.v (.str a0)) (.v (.int .u8 v144)) (dB (decide (v144 > 122))) false (decide (v144 > 122)) (some_sub (fun v23 => f19_r6 m a0 v23 = some o) ev23 h))
   ·have ev23 := cnd_t ev23
    refine Ops.sg 4 18 ?_
    exact Ops.sx (J19j24 U U U true true (some_sub (fun v23 => f19_r6 m a0 v23 = some o) ev23 h))
  obtain ⟨v15, ev15, h⟩ := bnd_some h
  refine Ops.hv (fun KQ => ∀ v9 : Bool, (cnd v9 (some true) (bnd (sidx a0 0) fun v145 => some (decide (v145 < 97)))) = some v15 → KQ 9 ⟨Zs22 a0 (a0.size : Int) v6 (d3::d4::d5::(dB v9)::(dB v9)::u40 (u1 [])), []⟩) ?_ fun G19g10 => Ops.sx (G19g10 v7 ev15)
  intro v9 ev15
  cases v9
  ·have ev15 := cnd_f ev15
   refine Ops.sg 1 10 ?_
   obtain ⟨v145, ev145, ev15⟩ := bnd_some ev15
   refine Ops.on 11 (fun h0 e0 => (str_ix (T := T) h0 9 a0 0 v145 ev145 (by kernel_rfl))) ?_
   refine Ops.sg 2 13 ?_
   exact Ops.sx (J19j16 (.v (.str a0)) (.v (.int .u8 v145)) (dB (decide (v145 < 97))) false (decide (v145 < 97)) (some_sub (fun v15 => f19_r7 m a0 v15 = some o) ev15 h))
  ·have ev15 := cnd_t ev15
   refine Ops.sg 4 13 ?_
   exact Ops.sx (J19j16 U U U true true (some_sub (fun v15 => f19_r7 m a0 v15 = some o) ev15 h))
 refine Ops.hv (fun KQ => ∀ v1 : Bool, f19_r8 m a0 (v1 || (decide ((a0.size : Int) > 30))) = some o → KQ 4 ⟨Zs22 a0 (a0.size : Int) v1 (u40 (u6 [])), []⟩) ?_ fun G19g2 => Ops.sx (G19g2 ((a0.size : Int) == 0) h)
 intro v1 h
 cases v1
 ·refine Ops.sg 4 8 ?_
  exact Ops.sx (J19j8 (.v (.str a0)) (dI (a0.size : Int)) (dB (decide ((a0.size : Int) > 30))) false (decide ((a0.size : Int) > 30)) h)
 ·refine Ops.sg 4 8 ?_
  exact Ops.sx (J19j8 U U U true true h)
def f62 (m : Nat) (a0 a1 : Int) : Option S26 :=
 some ((⟨a0, a1⟩ : S26))
noncomputable abbrev X62 (n : Nat) : Cx := cxOf Proofs.Tryz.prog E 62 n
theorem ok62 (m : Nat) (a0 a1 : Int) (o : S26) (h : f62 m a0 a1 = some o) (n : Nat) (hn : m + 1 ≤ n) : Fn Proofs.Tryz.prog E n 62 [.v (eI a0), .v (eI a1)] (e26 o) := by
 obtain ⟨n, rfl⟩ : ∃ q, n = q + 1 := ⟨n - 1, by omega⟩
 unfold f62 at h
 refine Fn.of (by kernel_rfl) (by kernel_rfl) (by kernel_rfl) ⟨(dI a0)::(dI a1)::u6 [], []⟩ (by kernel_rfl) (Wp.sq (Wp.rg (Ops.sg 1 1 (Ops.dn (seqQ.n (Wp.sq (Wp.rg (Ops.sg 4 4 (Ops.dn (seqQ.n (Wp.rt ?_)))))))))))
 exact fnQ.r' (X62 n) (fun z => (e26 z)) h (RetOk.mk' (.v (.agg [(vI a0), (vI a1)])) (by kernel_rfl) (by kernel_rfl))
def f91_r1 (m : Nat) (v17 : Bool) : Option Bool :=
 some v17
def f91_r2 (m : Nat) (a0 : Int) (v6 : Bool) : Option Bool :=
 f91_r1 m (v6 || ((decide (a0 > 57343)) && (decide (a0 ≤ 1114111))))
def f91 (m : Nat) (a0 : Int) : Option Bool :=
 f91_r2 m a0 ((decide (a0 ≥ 0)) && (decide (a0 < 55296)))
noncomputable abbrev X91 (n : Nat) : Cx := cxOf Proofs.Tryz.prog E 91 n
theorem ok91 (m : Nat) (a0 : Int) (o : Bool) (h : f91 m a0 = some o) (n : Nat) (hn : m + 1 ≤ n) : Fn Proofs.Tryz.prog E n 91 [.v (eI a0)] (eB o) := by
 obtain ⟨n, rfl⟩ : ∃ q, n = q + 1 := ⟨n - 1, by omega⟩
 unfold f91 at h
 refine Fn.of (by kernel_rfl) (by kernel_rfl) (by kernel_rfl) ⟨(dI a0)::u16 [], []⟩ (by kernel_rfl) (Wp.sq (Wp.rg (Ops.sg 1 1 (Ops.dn (seqQ.n (Wp.sq (Wp.rg (Ops.sg 3 3 ?_))))))))
 refine Ops.hv (fun KQ => ∀ (d3 d4 : D) (v5 v6 : Bool), f91_r2 m a0 v6 = some o → KQ 6 ⟨Zs31 a0 v5 (d3::d4::(dB v6)::u8 []), []⟩) ?_ fun J91j7 => ?_
 ·intro d3 d4 v5 v6 h
  unfold f91_r2 at h
  refine Ops.sg 1 7 ?_
  refine Ops.hv (fun KQ => ∀ (d10 d11 d12 d13 d14 d15 : D) (v16 v17 : Bool), f91_r1 m v17 = some o → KQ 14 ⟨Zs31 a0 v5 (d3::d4::(dB v16)::(dB v16)::d10::d11::d12::d13::d14::d15::(dB v17)::[]), []⟩) ?_ fun J91j18 => ?_
  ·intro d10 d11 d12 d13 d14 d15 v16 v17 h
   unfold f91_r1 at h
   refine Ops.sg 1 15 (Ops.dn (seqQ.n (Wp.rt ?_)))
   exact fnQ.r' (X91 n) (fun z => (eB z)) h (RetOk.mk' (dB v17) (by kernel_rfl) (by kernel_rfl))
  refine Ops.hv (fun KQ => ∀ v8 : Bool, f91_r1 m (v8 || ((decide (a0 > 57343)) && (decide (a0 ≤ 1114111)))) = some o → KQ 7 ⟨Zs31 a0 v5 (d3::d4::(dB v8)::(dB v8)::u7 []), []⟩) ?_ fun G91g9 => Ops.sx (G91g9 v6 h)
  intro v8 h
  cases v8
  ·refine Ops.sg 3 10 ?_
   refine Ops.hv (fun KQ => ∀ v19 : Bool, (f91_r1 m (false || (v19 && (decide (a0 ≤ 1114111))))) = some o → KQ 10 ⟨Zs31 a0 v5 (d3::d4::(dB false)::(dB false)::(dI a0)::(dB v19)::(dB v19)::u4 []), []⟩) ?_ fun G91g20 => Ops.sx (G91g20 (decide (a0 > 57343)) h)
   intro v19 h
   cases v19
   ·refine Ops.sg 4 14 ?_
    exact Ops.sx (J91j18 (dI a0) (dB false) (dB false) U U (dB false) false false h)
   ·refine Ops.sg 4 14 ?_
    exact Ops.sx (J91j18 (dI a0) (dB true) (dB true) (dI a0) (dB (decide (a0 ≤ 1114111))) (dB (decide (a0 ≤ 1114111))) false (decide (a0 ≤ 1114111)) h)
  ·refine Ops.sg 7 14 ?_
   exact Ops.sx (J91j18 U U U U U U true true h)
 refine Ops.hv (fun KQ => ∀ v1 : Bool, f91_r2 m a0 (v1 && (decide (a0 < 55296))) = some o → KQ 3 ⟨Zs31 a0 v1 (u11 []), []⟩) ?_ fun G91g2 => Ops.sx (G91g2 (decide (a0 ≥ 0)) h)
 intro v1 h
 cases v1
 ·refine Ops.sg 3 6 ?_
  exact Ops.sx (J91j7 U U false false h)
 ·refine Ops.sg 3 6 ?_
  exact Ops.sx (J91j7 (dI a0) (dB (decide (a0 < 55296))) true (decide (a0 < 55296)) h)
def f64 (m : Nat) (a0 : Int) : Option Int :=
 cnd (decide (a0 < 128))
 (some 1)
 (cnd (decide (a0 < 2048))
 (some 2)
 (cnd (decide (a0 < 65536))
 (some 3)
 (some 4)))
noncomputable abbrev X64 (n : Nat) : Cx := cxOf Proofs.Tryz.prog E 64 n
theorem ok64 (m : Nat) (a0 o : Int) (h : f64 m a0 = some o) (n : Nat) (hn : m + 1 ≤ n) : Fn Proofs.Tryz.prog E n 64 [.v (eI a0)] (eI o) := by
 obtain ⟨n, rfl⟩ : ∃ q, n = q + 1 := ⟨n - 1, by omega⟩
 unfold f64 at h
 refine Fn.of (by kernel_rfl) (by kernel_rfl) (by kernel_rfl) ⟨(dI a0)::u8 [], []⟩ (by kernel_rfl) (Wp.sq (Wp.rg (Ops.sg 1 1 (Ops.dn (seqQ.n (Wp.sq (Wp.sq (Wp.rg (Ops.sg 2 2 (Ops.dn (seqQ.n ?_)))))))))))
 refine Wp.cd h [0, 2] 0 (fun h => ?_) (fun h => ?_)
 ·refine Wp.sq (Wp.rg (Ops.sg 1 1 (Ops.dn (seqQ.n (Wp.rt (sqQ.r (seqQ.r ?_)))))))
  exact fnQ.r' (X64 n) (fun z => (eI z)) h (RetOk.mk' (dI 1) (by kernel_rfl) (by kernel_rfl))
 ·refine Wp.sk (sqQ.n' (seqQ.n (Wp.sq (Wp.sq (Wp.rg (Ops.sg 2 2 (Ops.dn (seqQ.n ?_))))))))
  refine Wp.cd h [0, 2] 0 (fun h => ?_) (fun h => ?_)
  ·refine Wp.sq (Wp.rg (Ops.sg 1 1 (Ops.dn (seqQ.n (Wp.rt (sqQ.r (seqQ.r ?_)))))))
   exact fnQ.r' (X64 n) (fun z => (eI z)) h (RetOk.mk' (dI 2) (by kernel_rfl) (by kernel_rfl))
  ·refine Wp.sk (sqQ.n' (seqQ.n (Wp.sq (Wp.sq (Wp.rg (Ops.sg 2 2 (Ops.dn (seqQ.n ?_))))))))
   refine Wp.cd h [2] 0 (fun h => ?_) (fun h => ?_)
   ·refine Wp.sq (Wp.rg (Ops.sg 1 1 (Ops.dn (seqQ.n (Wp.rt (sqQ.r (seqQ.r ?_)))))))
    exact fnQ.r' (X64 n) (fun z => (eI z)) h (RetOk.mk' (dI 3) (by kernel_rfl) (by kernel_rfl))
   ·refine Wp.sk (sqQ.n' (seqQ.n (Wp.sq (Wp.rg (Ops.sg 1 1 (Ops.dn (seqQ.n (Wp.rt ?_))))))))
    exact fnQ.r' (X64 n) (fun z => (eI z)) h (RetOk.mk' (dI 4) (by kernel_rfl) (by kernel_rfl))
def f63_r1 (m : Nat) (v35 v36 v46 : Int) (v52 : Bool) : Option (Stp Int (Int × Int)) :=
 cnd v52
 (some (.ret (-1)))
 (some (.nxt (w64 (w64 (w64 (v35 * 64) + w64 v46) - 128), w64 (v36 + 1))))
def f63_B2 (m : Nat) (a0 : ByteArray) (a1 v2 v35 v36 : Int) : Option (Stp Int (Int × Int)) :=
 cnd (decide (v36 < v2))
 (bnd (sidx a0 (w64 (a1 + v36))) fun v46 =>
 f63_r1 m v35 v36 v46 ((decide (w64 v46 < 128)) || (decide (w64 v46 > 191))))
 (some (.brk (v35, v36)))
def f63_r3 (m : Nat) (y55 : Int × Int) (v65 : Bool) : Option Int :=
 cnd v65
 (some (-1))
 (some y55.1)
def f63_j4 (m : Nat) (a0 : ByteArray) (a1 v2 v3 : Int) : Option Int :=
 cnd (decide (w64 (a1 + v2) > (a0.size : Int)))
 (some (-1))
 (brk (iter (fun (y : Int × Int) => f63_B2 m a0 a1 v2 y.1 y.2) m (v3, 1)) some fun y55 =>
 bnd (f91 m y55.1) fun v57 =>
 bnd (cnd (!v57)
 (some true)
 (bnd (f64 m y55.1) fun v67 =>
 some (v67 != v2))) fun v65 =>
 f63_r3 m y55 v65)
def f63_j5 (m : Nat) (a0 : ByteArray) (a1 v68 v69 : Int) : Option Int :=
 f63_j4 m a0 a1 v68 v69
def f63_j6 (m : Nat) (a0 : ByteArray) (a1 v79 v80 : Int) : Option Int :=
 f63_j5 m a0 a1 v79 v80
def f63 (m : Nat) (a0 : ByteArray) (a1 : Int) : Option Int :=
 bnd (sidx a0 a1) fun v1 =>
 cnd (decide (w64 v1 ≥ 240))
 (f63_j4 m a0 a1 4 (w64 (w64 v1 - 240)))
 (cnd (decide (w64 v1 ≥ 224))
 (f63_j5 m a0 a1 3 (w64 (w64 v1 - 224)))
 (cnd (decide (w64 v1 ≥ 192))
 (f63_j6 m a0 a1 2 (w64 (w64 v1 - 192)))
 (cnd (decide (w64 v1 ≥ 128))
 (some (-1))
 (f63_j6 m a0 a1 1 (w64 v1)))))
noncomputable abbrev X63 (n : Nat) : Cx := cxOf Proofs.Tryz.prog E 63 n
noncomputable def C63 : Code := bodyOf Proofs.Tryz.prog 63
noncomputable abbrev p63_0 : Code := cR (cR (cR (cR (cR (cR (cR C63))))))
theorem ok63 (m : Nat) (a0 : ByteArray) (a1 o : Int) (h : f63 m a0 a1 = some o) (n : Nat) (hn : m + 2 ≤ n) : Fn Proofs.Tryz.prog E n 63 [.v (eS a0), .v (eI a1)] (eI o) := by
 obtain ⟨n, rfl⟩ : ∃ q, n = q + 1 := ⟨n - 1, by omega⟩
 unfold f63 at h
 refine Fn.of (by kernel_rfl) (by kernel_rfl) (by kernel_rfl) ⟨(.v (.str a0))::(dI a1)::u40 (u25 []), []⟩ (by kernel_rfl) (Wp.sq (Wp.rg (Ops.sg 1 1 (Ops.dn (seqQ.n (Wp.sq (Wp.rg (Ops.sg 2 2 ?_))))))))
 obtain ⟨v1, ev1, h⟩ := bnd_some h
 refine Ops.on 3 (fun h0 e0 => (str_ix (T := T) h0 9 a0 a1 v1 ev1 (by kernel_rfl))) ?_
 refine Ops.sg 2 5 (Ops.dn (seqQ.n (Wp.sq (Wp.rg (Ops.sg 1 1 (Ops.dn (seqQ.n (Wp.sq (Wp.rg (Ops.sg 2 2 (Ops.dn (seqQ.n (Wp.sq (Wp.sq (Wp.rg (Ops.sg 2 2 (Ops.dn (seqQ.n ?_))))))))))))))))))
 have J63j16 : ∀ (v2 v3 : Int) (d4 d5 d6 d7 d8 d9 d10 d11 d12 d13 d14 d15 : D), f63_j4 m a0 a1 v2 v3 = some o → (seqQ (X63 n) (cR (cR (cR (cR (cR C63))))) (fnQ (X63 n).E.T (resOf Proofs.Tryz.prog 63) (eI o))) .normal ⟨Zs15 a0 a1 (w64 v1) v2 v3 (.v (.int .u8 v1)) (decide (w64 v1 ≥ 240)) (d4::d5::d6::d7::d8::d9::d10::d11::d12::d13::d14::d15::u38 []), []⟩ := by
  intro v2 v3 d4 d5 d6 d7 d8 d9 d10 d11 d12 d13 d14 d15 h
  unfold f63_j4 at h
  refine seqQ.n (Wp.sq (Wp.sq (Wp.rg (Ops.sg 6 6 (Ops.dn (seqQ.n ?_))))))
  refine Wp.cd h [0, 1, 4, 6, 7] 0 (fun h => ?_) (fun h => ?_)
  ·refine Wp.sq (Wp.rg (Ops.sg 1 1 (Ops.dn (seqQ.n (Wp.rt (sqQ.r (seqQ.r ?_)))))))
   exact fnQ.r' (X63 n) (fun z => (eI z)) h (RetOk.mk' (dI (-1)) (by kernel_rfl) (by kernel_rfl))
  ·refine Wp.sk (sqQ.n' (seqQ.n (Wp.sq (Wp.sq (Wp.rg (Ops.sg 1 1 (Ops.dn (seqQ.n (Wp.bk 0 [4, 6, 7] 0 ?_)))))))))
   have hLx54 : ∀ (kx38 : Nat) (v35 v36 : Int)  (ox37 : Int ⊕ (Int × Int)), iter (fun (y : Int × Int) => f63_B2 m a0 a1 v2 y.1 y.2) kx38 (v35, v36) = some ox37 → ∀ nx39, kx38 ≤ nx39 → (∀ r, ox37 = .inl r → ∀ σ, RetOk (X63 n) (resOf Proofs.Tryz.prog 63) (eI r) σ → (seqQ (X63 n) p63_0 (fnQ (X63 n).E.T (resOf Proofs.Tryz.prog 63) (eI o))) .ret σ) → (∀ (y : Int × Int) , ox37 = .inr y → (seqQ (X63 n) p63_0 (fnQ (X63 n).E.T (resOf Proofs.Tryz.prog 63) (eI o))) .normal ⟨Zs20 a0 a1 v2 y.1 ((dI y.2)::q40 (q18 [])), []⟩) → Lp (X63 n) [0, 1, 4, 6, 7, 8] 0 (cL (cL (cR (cL (cR (cR (cR (cR (cR (cR C63)))))))))) nx39 ⟨Zs20 a0 a1 v2 v35 ((dI v36)::q40 (q18 [])), []⟩ (blkQ (X63 n) 0 [4, 6, 7] 0 (seqQ (X63 n) p63_0 (fnQ (X63 n).E.T (resOf Proofs.Tryz.prog 63) (eI o)))) := by
    intro kx38
    induction kx38 with
    | zero => intro v35 v36  ox37 h; exact (iter_zero h).elim
    | succ kx38 ihx40 =>
     intro v35 v36  ox37 h nx39 hnx43 hrx41 hxx42
     obtain ⟨nx39, rfl⟩ : ∃ q, nx39 = q + 1 := ⟨nx39 - 1, by omega⟩
     obtain ⟨sx44, h, hsx45⟩ := iter_some h
     have h : f63_B2 m a0 a1 v2 v35 v36 = some sx44 := h
     unfold f63_B2 at h
     refine Lp.succ (Wp.sq (Wp.sq (Wp.rg (Ops.sg 3 3 (Ops.dn (seqQ.n ?_))))))
     refine Wp.cd h [0, 1, 4, 6, 7, 8] 0 (fun h => ?_) (fun h => ?_)
     ·refine Wp.sk (sqQ.n' (seqQ.n (Wp.sq (Wp.bk 1 [0, 1, 4, 6, 7, 8] 0 (Wp.sq (Wp.rg (Ops.sg 4 4 ?_)))))))
      obtain ⟨v46, ev46, h⟩ := bnd_some h
      refine Ops.on 5 (fun h0 e0 => (str_ix (T := T) h0 9 a0 (w64 (a1 + v36)) v46 ev46 (by kernel_rfl))) ?_
      refine Ops.sg 2 7 (Ops.dn (seqQ.n (Wp.sq (Wp.sq (Wp.rg (Ops.sg 3 3 ?_))))))
      refine Ops.hv (fun KQ => ∀ (d49 d50 : D) (v51 v52 : Bool), f63_r1 m v35 v36 v46 v52 = some sx44 → KQ 6 ⟨Zs20 a0 a1 v2 v35 ((dI v36)::(dI (w64 v46))::q25 ((dI v36)::(dI v2)::(dB (decide (v36 < v2)))::q2 ((.v (.str a0))::(dI a1)::(dI v36)::(dI (w64 (a1 + v36)))::(.v (.int .u8 v46))::(dI (w64 v46))::(dI (w64 v46))::(dB v51)::(dB v51)::d49::d50::(dB v52)::q15 []))), []⟩) ?_ fun J63j53 => ?_
      ·intro d49 d50 v51 v52 h
       unfold f63_r1 at h
       refine Ops.dn (seqQ.n ?_)
       refine Wp.cd h [0, 1, 4, 6, 7, 8, 9] 0 (fun h => ?_) (fun h => ?_)
       ·refine Wp.sq (Wp.rg (Ops.sg 1 1 (Ops.dn (seqQ.n (Wp.rt (sqQ.r (seqQ.r (blkQ.r (seqQ.r ?_)))))))))
        cases h
        refine lpQ.r (blkQ.r ?_)
        exact hrx41 _ hsx45 _ (RetOk.forget [0, 1, 4, 6, 7, 8] (by kernel_rfl) (RetOk.mk' (dI (-1)) (by kernel_rfl) (by kernel_rfl)))
       ·refine Wp.sk (sqQ.n' (seqQ.n (Wp.rg (Ops.sg 6 6 (Ops.dn (blkQ.n' (seqQ.n (Wp.rg (Ops.sg 3 3 (Ops.dn (lpQ.m ⟨Zs20 a0 a1 v2 (w64 (w64 (w64 (v35 * 64) + w64 v46) - 128)) ((dI (w64 (v36 + 1)))::q40 (q18 [])), []⟩ ?_)))))))))))
        cases h
        exact ihx40 (w64 (w64 (w64 (v35 * 64) + w64 v46) - 128)) (w64 (v36 + 1))  _ hsx45 _ (by omega) hrx41 hxx42
      refine Ops.hv (fun KQ => ∀ v47 : Bool, f63_r1 m v35 v36 v46 (v47 || (decide (w64 v46 > 191))) = some sx44 → KQ 3 ⟨Zs20 a0 a1 v2 v35 ((dI v36)::(dI (w64 v46))::q25 ((dI v36)::(dI v2)::(dB (decide (v36 < v2)))::q2 ((.v (.str a0))::(dI a1)::(dI v36)::(dI (w64 (a1 + v36)))::(.v (.int .u8 v46))::(dI (w64 v46))::(dI (w64 v46))::(dB v47)::(dB v47)::q18 []))), []⟩) ?_ fun G63g48 => Ops.sx (G63g48 (decide (w64 v46 < 128)) h)
      intro v47 h
      cases v47
      ·refine Ops.sg 3 6 ?_
       exact Ops.sx (J63j53 (dI (w64 v46)) (dB (decide (w64 v46 > 191))) false (decide (w64 v46 > 191)) h)
      ·refine Ops.sg 3 6 ?_
       exact Ops.sx (J63j53 U U true true h)
     ·refine Wp.ex 0 (sqQ.x (seqQ.x ?_))
      cases h
      refine lpQ.x (blkQ.w ⟨Zs20 a0 a1 v2 v35 ((dI v36)::q40 (q18 [])), []⟩ ?_)
      exact hxx42 (v35, v36)  hsx45
   refine Wp.loop' [0, 1, 4, 6, 7, 8] 0 (by kernel_rfl) ⟨Zs20 a0 a1 v2 v3 ((dI 1)::q40 (q18 [])), []⟩ (by kernel_rfl) ?_
   rcases brk_some h with ⟨r56, er56, h⟩ | ⟨y55, ey55, h⟩
   ·refine hLx54 _ v3 1  _ er56 n (by omega) (fun r er σ hσ => ?_) (fun y  ey => by cases ey)
    cases er
    refine seqQ.r ?_
    exact fnQ.r' (X63 n) (fun z => (eI z)) h hσ
   ·refine hLx54 _ v3 1  _ ey55 n (by omega) (fun r er => by cases er) (fun y  ey => ?_)
    cases ey
    refine seqQ.n (Wp.sq (Wp.sq (Wp.rg (Ops.sg 1 1 ?_))))
    obtain ⟨v57, ev57, h⟩ := bnd_some h
    refine Ops.on 2 (fun h0 e0 => (call_ok (E' := E) (h := h0) (by kernel_rfl) (Args.v (vI y55.1) (eI y55.1) (by kernel_rfl) Args.nil) (ok91 m y55.1 v57 ev57 n (by omega)))) ?_
    refine Ops.sg 2 4 ?_
    refine Ops.hv (fun KQ => ∀ (d60 d61 d62 d63 : D) (v64 v65 : Bool), f63_r3 m y55 v65 = some o → KQ 9 ⟨Zs20 a0 a1 v2 y55.1 ((dI y55.2)::q40 (q8 ((dI y55.1)::(dB v57)::(dB v64)::(dB v64)::d60::d61::d62::d63::(dB v65)::q1 []))), []⟩) ?_ fun J63j66 => ?_
    ·intro d60 d61 d62 d63 v64 v65 h
     unfold f63_r3 at h
     refine Ops.dn (seqQ.n ?_)
     refine Wp.cd h [4, 7] 0 (fun h => ?_) (fun h => ?_)
     ·refine Wp.sq (Wp.rg (Ops.sg 1 1 (Ops.dn (seqQ.n (Wp.rt (sqQ.r (seqQ.r ?_)))))))
      exact fnQ.r' (X63 n) (fun z => (eI z)) h (RetOk.mk' (dI (-1)) (by kernel_rfl) (by kernel_rfl))
     ·refine Wp.sk (sqQ.n' (seqQ.n (Wp.sq (Wp.rg (Ops.sg 2 2 (Ops.dn (seqQ.n (Wp.rt ?_))))))))
      exact fnQ.r' (X63 n) (fun z => (eI z)) h (RetOk.mk' (dI y55.1) (by kernel_rfl) (by kernel_rfl))
    obtain ⟨v65, ev65, h⟩ := bnd_some h
    refine Ops.hv (fun KQ => ∀ v58 : Bool, (cnd v58 (some true) (bnd (f64 m y55.1) fun v67 => some (v67 != v2))) = some v65 → KQ 4 ⟨Zs20 a0 a1 v2 y55.1 ((dI y55.2)::q40 (q8 ((dI y55.1)::(dB v57)::(dB v58)::(dB v58)::q6 []))), []⟩) ?_ fun G63g59 => Ops.sx (G63g59 (!v57) ev65)
    intro v58 ev65
    cases v58
    ·have ev65 := cnd_f ev65
     refine Ops.sg 1 5 ?_
     obtain ⟨v67, ev67, ev65⟩ := bnd_some ev65
     refine Ops.on 6 (fun h0 e0 => (call_ok (E' := E) (h := h0) (by kernel_rfl) (Args.v (vI y55.1) (eI y55.1) (by kernel_rfl) Args.nil) (ok64 m y55.1 v67 ev67 n (by omega)))) ?_
     refine Ops.sg 3 9 ?_
     exact Ops.sx (J63j66 (dI y55.1) (dI v67) (dI v2) (dB (v67 != v2)) false (v67 != v2) (some_sub (fun v65 => f63_r3 m y55 v65 = some o) ev65 h))
    ·have ev65 := cnd_t ev65
     refine Ops.sg 5 9 ?_
     exact Ops.sx (J63j66 U U U U true true (some_sub (fun v65 => f63_r3 m y55 v65 = some o) ev65 h))
 refine Wp.cd h [0, 1, 4, 6, 7] 0 (fun h => ?_) (fun h => ?_)
 ·refine Wp.sq (Wp.rg (Ops.sg 1 1 (Ops.dn (seqQ.n (Wp.rg (Ops.sg 3 3 (Ops.dn (sqQ.m ⟨(.v (.str a0))::(dI a1)::u2 ((dI 0)::(dI (w64 v1))::(dI 4)::(dI (w64 (w64 v1 - 240)))::u2 ((.v (.str a0))::(dI a1)::(.v (.int .u8 v1))::(dI (w64 v1))::(dI (w64 v1))::(dI (w64 v1))::(dB (decide (w64 v1 ≥ 240)))::(dI (w64 v1))::(dI (w64 (w64 v1 - 240)))::u40 (u8 []))), []⟩ ?_))))))))
  exact J63j16 4 (w64 (w64 v1 - 240)) _ _ _ _ _ _ _ _ _ _ _ _ h
 ·refine Wp.sq (Wp.rg (Ops.sg 2 2 (Ops.dn (seqQ.n ?_))))
  have J63j78 : ∀ (v68 v69 : Int) (d70 d71 d72 d73 d74 d75 d76 d77 : D), f63_j5 m a0 a1 v68 v69 = some o → (sqQ (X63 n) [0, 1, 4, 6, 7] 0 (seqQ (X63 n) (cR (cR (cR (cR (cR C63))))) (fnQ (X63 n).E.T (resOf Proofs.Tryz.prog 63) (eI o)))) .normal ⟨Zs15 a0 a1 (w64 v1) v68 v69 (.v (.int .u8 v1)) (decide (w64 v1 ≥ 240)) (u2 ((dI (w64 v1))::(dB (decide (w64 v1 ≥ 224)))::d70::d71::d72::d73::d74::d75::d76::d77::u38 [])), []⟩ := by
   intro v68 v69 d70 d71 d72 d73 d74 d75 d76 d77 h
   unfold f63_j5 at h
   refine sqQ.m ⟨Zs15 a0 a1 (w64 v1) v68 v69 (.v (.int .u8 v1)) (decide (w64 v1 ≥ 240)) (u2 ((dI (w64 v1))::(dB (decide (w64 v1 ≥ 224)))::d70::d71::d72::d73::d74::d75::d76::d77::u38 [])), []⟩ ?_
   exact J63j16 v68 v69 _ _ _ _ _ _ _ _ _ _ _ _ h
  refine Wp.cd h [0, 1, 4, 6, 7] 0 (fun h => ?_) (fun h => ?_)
  ·refine Wp.sq (Wp.rg (Ops.sg 1 1 (Ops.dn (seqQ.n (Wp.rg (Ops.sg 3 3 (Ops.dn (sqQ.m ⟨(.v (.str a0))::(dI a1)::u2 ((dI 0)::(dI (w64 v1))::(dI 3)::(dI (w64 (w64 v1 - 224)))::u2 ((.v (.str a0))::(dI a1)::(.v (.int .u8 v1))::(dI (w64 v1))::(dI (w64 v1))::(dI (w64 v1))::(dB (decide (w64 v1 ≥ 240)))::u2 ((dI (w64 v1))::(dB (decide (w64 v1 ≥ 224)))::(dI (w64 v1))::(dI (w64 (w64 v1 - 224)))::u40 (u4 [])))), []⟩ ?_))))))))
   exact J63j78 3 (w64 (w64 v1 - 224)) _ _ _ _ _ _ _ _ h
  ·refine Wp.sq (Wp.rg (Ops.sg 2 2 (Ops.dn (seqQ.n ?_))))
   have J63j85 : ∀ (v79 v80 : Int) (d81 d82 d83 d84 : D), f63_j6 m a0 a1 v79 v80 = some o → (sqQ (X63 n) [0, 1, 4, 6, 7] 0 (sqQ (X63 n) [0, 1, 4, 6, 7] 0 (seqQ (X63 n) (cR (cR (cR (cR (cR C63))))) (fnQ (X63 n).E.T (resOf Proofs.Tryz.prog 63) (eI o))))) .normal ⟨Zs15 a0 a1 (w64 v1) v79 v80 (.v (.int .u8 v1)) (decide (w64 v1 ≥ 240)) (u2 ((dI (w64 v1))::(dB (decide (w64 v1 ≥ 224)))::u2 ((dI (w64 v1))::(dB (decide (w64 v1 ≥ 192)))::d81::d82::d83::d84::u38 []))), []⟩ := by
    intro v79 v80 d81 d82 d83 d84 h
    unfold f63_j6 at h
    refine sqQ.m ⟨Zs15 a0 a1 (w64 v1) v79 v80 (.v (.int .u8 v1)) (decide (w64 v1 ≥ 240)) (u2 ((dI (w64 v1))::(dB (decide (w64 v1 ≥ 224)))::u2 ((dI (w64 v1))::(dB (decide (w64 v1 ≥ 192)))::d81::d82::d83::d84::u38 []))), []⟩ ?_
    exact J63j78 v79 v80 _ _ _ _ _ _ _ _ h
   refine Wp.cd h [0, 1, 4, 6, 7] 0 (fun h => ?_) (fun h => ?_)
   ·refine Wp.sq (Wp.rg (Ops.sg 1 1 (Ops.dn (seqQ.n (Wp.rg (Ops.sg 3 3 (Ops.dn (sqQ.m ⟨(.v (.str a0))::(dI a1)::u2 ((dI 0)::(dI (w64 v1))::(dI 2)::(dI (w64 (w64 v1 - 192)))::u2 ((.v (.str a0))::(dI a1)::(.v (.int .u8 v1))::(dI (w64 v1))::(dI (w64 v1))::(dI (w64 v1))::(dB (decide (w64 v1 ≥ 240)))::u2 ((dI (w64 v1))::(dB (decide (w64 v1 ≥ 224)))::u2 ((dI (w64 v1))::(dB (decide (w64 v1 ≥ 192)))::(dI (w64 v1))::(dI (w64 (w64 v1 - 192)))::u40 [])))), []⟩ ?_))))))))
    exact J63j85 2 (w64 (w64 v1 - 192)) _ _ _ _ h
   ·refine Wp.sq (Wp.rg (Ops.sg 2 2 (Ops.dn (seqQ.n ?_))))
    refine Wp.cd h [0, 1, 4, 6, 7] 0 (fun h => ?_) (fun h => ?_)
    ·refine Wp.sq (Wp.rg (Ops.sg 1 1 (Ops.dn (seqQ.n (Wp.rt (sqQ.r (sqQ.r (sqQ.r (sqQ.r (seqQ.r ?_))))))))))
     exact fnQ.r' (X63 n) (fun z => (eI z)) h (RetOk.mk' (dI (-1)) (by kernel_rfl) (by kernel_rfl))
    ·refine Wp.sk (sqQ.n' (sqQ.m ⟨(.v (.str a0))::(dI a1)::u2 ((dI 0)::(dI (w64 v1))::(dI 1)::(dI (w64 v1))::u2 ((.v (.str a0))::(dI a1)::(.v (.int .u8 v1))::(dI (w64 v1))::(dI (w64 v1))::(dI (w64 v1))::(dB (decide (w64 v1 ≥ 240)))::u2 ((dI (w64 v1))::(dB (decide (w64 v1 ≥ 224)))::u2 ((dI (w64 v1))::(dB (decide (w64 v1 ≥ 192)))::u2 ((dI (w64 v1))::(dB (decide (w64 v1 ≥ 128)))::u38 []))))), []⟩ ?_))
     exact J63j85 1 (w64 v1) _ _ _ _ h
def f47_B1 (m : Nat) (a0 : ByteArray) (v12 : (List Int)) (v13 : Int) : Option (Stp ((List Int) × S26) ((List Int) × Int)) :=
 cnd (decide (v13 < (a0.size : Int)))
 (bnd (f63 m a0 v13) fun v23 =>
 cnd (decide (v23 < 0))
 (bnd (f62 m 5 v13) fun v24 =>
 some (.ret (([], v24))))
 (bnd (app 8 v12 [v23]) fun v25 =>
 bnd (f64 m v23) fun v26 =>
 some (.nxt (v25, w64 (v13 + v26)))))
 (some (.brk (v12, v13)))
def f47 (m : Nat) (a0 : ByteArray) : Option ((List Int) × S26) :=
 cnd (decide ((a0.size : Int) > 4000))
 (bnd (f62 m 1 (-1)) fun v1 =>
 some (([], v1)))
 (brk (iter (fun (y : (List Int) × Int) => f47_B1 m a0 y.1 y.2) m ([], 0)) some fun y28 =>
 some ((y28.1, (⟨0, 0⟩ : S26))))
noncomputable abbrev X47 (n : Nat) : Cx := cxOf Proofs.Tryz.prog E 47 n
noncomputable def C47 : Code := bodyOf Proofs.Tryz.prog 47
theorem ok47 (m : Nat) (a0 : ByteArray) (o : ((List Int) × S26)) (h : f47 m a0 = some o) (n : Nat) (hn : m + 3 ≤ n) : Fn Proofs.Tryz.prog E n 47 [.v (eS a0)] (.tuple [(eL eI) o.1, e26 o.2]) := by
 obtain ⟨n, rfl⟩ : ∃ q, n = q + 1 := ⟨n - 1, by omega⟩
 unfold f47 at h
 refine Fn.of (by kernel_rfl) (by kernel_rfl) (by kernel_rfl) ⟨(.v (.str a0))::u31 [], []⟩ (by kernel_rfl) (Wp.sq (Wp.rg (Ops.sg 2 2 (Ops.dn (seqQ.n (Wp.sq (Wp.sq (Wp.rg (Ops.sg 3 3 (Ops.dn (seqQ.n ?_)))))))))))
 refine Wp.cd h [0, 2, 3] 1 (fun h => ?_) (fun h => ?_)
 ·refine Wp.sq (Wp.rg ?_)
  obtain ⟨v1, ev1, h⟩ := bnd_some h
  refine Ops.on 1 (fun h0 e0 => (call_ok (E' := E) (h := h0) (by kernel_rfl) (Args.v (vI 1) (eI 1) (by kernel_rfl) (Args.v (vI (-1)) (eI (-1)) (by kernel_rfl) Args.nil)) (ok62 m 1 (-1) v1 ev1 n (by omega)))) ?_
  refine Ops.sg 2 3 (Ops.dn (seqQ.n (Wp.rt (sqQ.r (seqQ.r ?_)))))
  exact fnQ.r' (X47 n) (fun z => (.tuple [(eL eI) z.1, e26 z.2])) h (RetOk.mk' (.v (.tuple [(.sl .nil (List.map eI [])), (.agg [(vI v1.fCode), (vI v1.fIndex)])])) (by kernel_rfl) (by kernel_rfl))
 ·refine Wp.sk (sqQ.n' (seqQ.n (Wp.sq (Wp.rg (Ops.sg 1 1 (Ops.dn (seqQ.n (Wp.sq (Wp.sq (Wp.rg (Ops.sg 1 1 (Ops.dn (seqQ.n (Wp.bk 0 [2, 3, 4] 2 ?_))))))))))))))
  have hLx27 : ∀ (kx15 : Nat) (v12 : (List Int)) (v13 : Int)  (ox14 : ((List Int) × S26) ⊕ ((List Int) × Int)), iter (fun (y : (List Int) × Int) => f47_B1 m a0 y.1 y.2) kx15 (v12, v13) = some ox14 → ∀ nx16, kx15 ≤ nx16 → (∀ r, ox14 = .inl r → ∀ σ, RetOk (X47 n) (resOf Proofs.Tryz.prog 47) (.tuple [(eL eI) r.1, e26 r.2]) σ → (seqQ (X47 n) (cR (cR (cR (cR C47)))) (fnQ (X47 n).E.T (resOf Proofs.Tryz.prog 47) (.tuple [(eL eI) o.1, e26 o.2]))) .ret σ) → (∀ (y : (List Int) × Int) , ox14 = .inr y → (seqQ (X47 n) (cR (cR (cR (cR C47)))) (fnQ (X47 n).E.T (resOf Proofs.Tryz.prog 47) (.tuple [(eL eI) o.1, e26 o.2]))) .normal ⟨Zs37 (.v (.sl .nil (List.map eI []))) y.1 (q27 []), [(.cells [(dI 0), (dI 0)]), .dead, (appO 1 (List.map eI y.1))]⟩) → Lp (X47 n) [0, 2, 3, 4, 5] 2 (cL (cL (cR (cL (cR (cR (cR C47))))))) nx16 ⟨Zs21 a0 (.v (.sl .nil (List.map eI []))) ((appD 2 (List.map eI v12))::(dI v13)::q26 []), [(.cells [(dI 0), (dI 0)]), .dead, (appO 1 (List.map eI v12))]⟩ (blkQ (X47 n) 0 [2, 3, 4] 2 (seqQ (X47 n) (cR (cR (cR (cR C47)))) (fnQ (X47 n).E.T (resOf Proofs.Tryz.prog 47) (.tuple [(eL eI) o.1, e26 o.2])))) := by
   intro kx15
   induction kx15 with
   | zero => intro v12 v13  ox14 h; exact (iter_zero h).elim
   | succ kx15 ihx17 =>
    intro v12 v13  ox14 h nx16 hnx20 hrx18 hxx19
    obtain ⟨nx16, rfl⟩ : ∃ q, nx16 = q + 1 := ⟨nx16 - 1, by omega⟩
    obtain ⟨sx21, h, hsx22⟩ := iter_some h
    have h : f47_B1 m a0 v12 v13 = some sx21 := h
    unfold f47_B1 at h
    refine Lp.succ (Wp.sq (Wp.sq (Wp.rg (Ops.sg 4 4 (Ops.dn (seqQ.n ?_))))))
    refine Wp.cd h [0, 2, 3, 4, 5] 3 (fun h => ?_) (fun h => ?_)
    ·refine Wp.sk (sqQ.n ⟨Zs21 a0 (.v (.sl .nil (List.map eI []))) ((appD 3 (List.map eI v12))::(dI v13)::q26 []), [(.cells [(dI 0), (dI 0)]), .dead, .dead, (appO 1 (List.map eI v12))]⟩ (by generalize v12 = z0; cases z0 <;> kernel_rfl) (seqQ.n (Wp.bk 1 [0, 2, 3, 4, 5] 4 (Wp.sq (Wp.rg (Ops.sg 2 2 ?_))))))
     obtain ⟨v23, ev23, h⟩ := bnd_some h
     refine Ops.on 3 (fun h0 e0 => (call_ok (E' := E) (h := h0) (by kernel_rfl) (Args.v (.str a0) (eS a0) (by kernel_rfl) (Args.v (vI v13) (eI v13) (by kernel_rfl) Args.nil)) (ok63 m a0 v13 v23 ev23 n (by omega)))) ?_
     refine Ops.sg 1 4 (Ops.dn (seqQ.n (Wp.sq (Wp.sq (Wp.rg (Ops.sg 2 2 (Ops.dn (seqQ.n ?_))))))))
     refine Wp.cd h [0, 2, 3, 4, 5, 6] 4 (fun h => ?_) (fun h => ?_)
     ·refine Wp.sq (Wp.rg (Ops.sg 1 1 ?_))
      obtain ⟨v24, ev24, h⟩ := bnd_some h
      refine Ops.on 2 (fun h0 e0 => (call_ok (E' := E) (h := h0) (by kernel_rfl) (Args.v (vI 5) (eI 5) (by kernel_rfl) (Args.v (vI v13) (eI v13) (by kernel_rfl) Args.nil)) (ok62 m 5 v13 v24 ev24 n (by omega)))) ?_
      refine Ops.sg 2 4 (Ops.dn (seqQ.n (Wp.rt (sqQ.r (seqQ.r (blkQ.r ?_))))))
      cases h
      refine lpQ.r (blkQ.r ?_)
      exact hrx18 _ hsx22 _ (RetOk.forget [0, 2, 3, 4, 5] (by kernel_rfl) (RetOk.mk' (.v (.tuple [(.sl .nil (List.map eI [])), (.agg [(vI v24.fCode), (vI v24.fIndex)])])) (by kernel_rfl) (by kernel_rfl)))
     ·refine Wp.sk (sqQ.n ⟨Zs21 a0 (.v (.sl .nil (List.map eI []))) ((appD 4 (List.map eI v12))::(dI v13)::(dI v23)::q25 []), [(.cells [(dI 0), (dI 0)]), .dead, .dead, .dead, (appO 1 (List.map eI v12))]⟩ (by generalize v12 = z0; cases z0 <;> kernel_rfl) (seqQ.n (Wp.sq (Wp.rg (Ops.sg 3 3 ?_)))))
      obtain ⟨v25, ev25, h⟩ := bnd_some h
      refine Ops.on 4 (fun h0 e0 => (app_r (T := T) (g := .nil) h0 77 3 4 1 ti3 .nonfull eI v12 [v23] v25 ev25 (by kernel_rfl) (by kernel_rfl) (by kernel_rfl) (by kernel_rfl) (fun _ => rfl) (hq_of e0 (by kernel_rfl)))) ?_
      refine Ops.sg 1 5 (Ops.dn (seqQ.n (Wp.rg (Ops.sg 2 2 ?_))))
      obtain ⟨v26, ev26, h⟩ := bnd_some h
      refine Ops.on 3 (fun h0 e0 => (call_ok (E' := E) (h := h0) (by kernel_rfl) (Args.v (vI v23) (eI v23) (by kernel_rfl) Args.nil) (ok64 m v23 v26 ev26 n (by omega)))) ?_
      refine Ops.sg 2 5 (Ops.dn (blkQ.n ⟨Zs21 a0 (.v (.sl .nil (List.map eI []))) ((appD 4 (List.map eI v25))::(dI (w64 (v13 + v26)))::q26 []), [(.cells [(dI 0), (dI 0)]), .dead, .dead, .dead, (appO 1 (List.map eI v25))]⟩ (by generalize v25 = z0; cases z0 <;> kernel_rfl) (lpQ.n ⟨Zs21 a0 (.v (.sl .nil (List.map eI []))) ((appD 2 (List.map eI v25))::(dI (w64 (v13 + v26)))::q26 []), [(.cells [(dI 0), (dI 0)]), .dead, (appO 1 (List.map eI v25))]⟩ (by generalize v25 = z0; cases z0 <;> kernel_rfl) ?_)))
      cases h
      exact ihx17 v25 (w64 (v13 + v26))  _ hsx22 _ (by omega) hrx18 hxx19
    ·refine Wp.ex 0 (sqQ.x (seqQ.x ?_))
     cases h
     refine lpQ.x (blkQ.x ⟨Zs37 (.v (.sl .nil (List.map eI []))) v12 (q27 []), [(.cells [(dI 0), (dI 0)]), .dead, (appO 1 (List.map eI v12))]⟩ (by generalize v12 = z0; cases z0 <;> kernel_rfl) ?_)
     exact hxx19 (v12, v13)  hsx22
  refine Wp.loop' [0, 2, 3, 4, 5] 2 (by kernel_rfl) ⟨Zs21 a0 (.v (.sl .nil (List.map eI []))) ((appD 2 (List.map eI []))::(dI 0)::q26 []), [(.cells [(dI 0), (dI 0)]), .dead, .dead]⟩ (by kernel_rfl) ?_
  rcases brk_some h with ⟨r29, er29, h⟩ | ⟨y28, ey28, h⟩
  ·refine hLx27 _ [] 0  _ er29 n (by omega) (fun r er σ hσ => ?_) (fun y  ey => by cases ey)
   cases er
   refine seqQ.r ?_
   exact fnQ.r' (X47 n) (fun z => (.tuple [(eL eI) z.1, e26 z.2])) h hσ
  ·refine hLx27 _ [] 0  _ ey28 n (by omega) (fun r er => by cases er) (fun y  ey => ?_)
   cases ey
   refine seqQ.n (Wp.sq (Wp.rg (Ops.sg 4 4 (Ops.dn (seqQ.n (Wp.rt ?_))))))
   exact fnQ.r' (X47 n) (fun z => (.tuple [(eL eI) z.1, e26 z.2])) h (RetOk.tup [(appD 2 (List.map eI y28.1)), (.v (.agg [(vI 0), (vI 0)]))] (by kernel_rfl) (.d (appD 2 (List.map eI y28.1)) _ (appD_frz _ _ _ _) (appF_nt _ _ _) (.v (.agg [(vI 0), (vI 0)]) _ (by kernel_rfl) (by kernel_rfl) .nil)))
def f33_B1 (m : Nat) (v65 v69 : Int) : Option (Stp Bool (Int)) :=
 cnd (decide (v69 < (([0, 9, 10, 32, 40, 41, 91, 93, 44, 59]).length : Int)))
 (bnd (idx ([0, 9, 10, 32, 40, 41, 91, 93, 44, 59]) v69) fun v79 =>
 cnd (v65 == v79)
 (some (.ret false))
 (some (.nxt (w64 (v69 + 1)))))
 (some (.brk v69))
def f33_B2 (m : Nat) (v1 : ((List Int) × S26)) (v55 : Int) : Option (Stp Bool (Int)) :=
 cnd (decide (v55 < (v1.1.length : Int)))
 (bnd (idx v1.1 v55) fun v65 =>
 brk (iter (fun (y : Int) => f33_B1 m v65 y) m 0) (fun r => some (.ret r)) fun y81 =>
 cnd (decide (v65 ≥ 983040))
 (some (.ret false))
 (some (.nxt (w64 (v55 + 1)))))
 (some (.brk v55))
def f33_r3 (m : Nat) (v1 : ((List Int) × S26)) (v16 : Bool) : Option Bool :=
 cnd v16
 (some false)
 (brk (iter (fun (y : Int) => f33_B2 m v1 y) m 0) some fun y84 =>
 some true)
def f33_r4 (m : Nat) (v1 : ((List Int) × S26)) (v8 : Bool) : Option Bool :=
 f33_r3 m v1 (v8 || (decide ((v1.1.length : Int) > 30)))
def f33 (m : Nat) (a0 : ByteArray) : Option Bool :=
 bnd (f47 m a0) fun v1 =>
 f33_r4 m v1 ((!((v1.2.fCode == 0) && ((v1.2.fIndex == 0) && true))) || ((v1.1.length : Int) == 0))
noncomputable abbrev X33 (n : Nat) : Cx := cxOf Proofs.Tryz.prog E 33 n
noncomputable def C33 : Code := bodyOf Proofs.Tryz.prog 33
noncomputable abbrev p33_0 : Code := cR (cR (cR (cR C33)))
noncomputable abbrev p33_1 : Code := cL (cL (cR (cL (cR (cR (cR C33))))))
noncomputable abbrev p33_2 : Code := cR (cR (cR p33_1))
noncomputable abbrev p33_3 : Code := cR (cR (cL (cL (cR (cR p33_1)))))
abbrev b33_0 (w0 : ((List Int) × S26)) : AObj := .cells [(dI w0.2.fCode), (dI w0.2.fIndex)]
abbrev k33_0 : List Nat := [2, 27, 28, 29]
abbrev k33_1 : List Nat := [2, 6, 27, 28, 29, 33, 34, 35]
theorem ok33 (m : Nat) (a0 : ByteArray) (o : Bool) (h : f33 m a0 = some o) (n : Nat) (hn : m + 4 ≤ n) : Fn Proofs.Tryz.prog E n 33 [.v (eS a0)] (eB o) := by
 obtain ⟨n, rfl⟩ : ∃ q, n = q + 1 := ⟨n - 1, by omega⟩
 unfold f33 at h
 refine Fn.of (by kernel_rfl) (by kernel_rfl) (by kernel_rfl) ⟨(.v (.str a0))::u40 (u5 []), []⟩ (by kernel_rfl) (Wp.sq (Wp.rg (Ops.sg 1 1 (Ops.dn (seqQ.n (Wp.sq (Wp.rg (Ops.sg 1 1 ?_))))))))
 obtain ⟨v1, ev1, h⟩ := bnd_some h
 refine Ops.on 2 (fun h0 e0 => (call_ok (E' := E) (h := h0) (by kernel_rfl) (Args.v (.str a0) (eS a0) (by kernel_rfl) Args.nil) (ok47 m a0 v1 ev1 n (by omega)))) ?_
 refine Ops.sg 6 8 (Ops.dn (seqQ.n (Wp.sq (Wp.sq (Wp.rg (Ops.sg 4 4 ?_))))))
 refine Ops.hv (fun KQ => ∀ (d4 d5 d6 : D) (v7 v8 : Bool), f33_r4 m v1 v8 = some o → KQ 8 ⟨Zs13 a0 v1.1 (.v (.tuple [(vP eI v1.1), (.agg [(vI v1.2.fCode), (vI v1.2.fIndex)])])) (.v (.agg [(vI v1.2.fCode), (vI v1.2.fIndex)])) (.v (.agg [(vI 0), (vI 0)])) v7 (d4::d5::d6::(dB v8)::u24 []), [(b33_0 v1)]⟩) ?_ fun J33j9 => ?_
 ·intro d4 d5 d6 v7 v8 h
  unfold f33_r4 at h
  refine Ops.sg 1 9 ?_
  refine Ops.hv (fun KQ => ∀ (d12 d13 d14 : D) (v15 v16 : Bool), f33_r3 m v1 v16 = some o → KQ 13 ⟨Zs13 a0 v1.1 (.v (.tuple [(vP eI v1.1), (.agg [(vI v1.2.fCode), (vI v1.2.fIndex)])])) (.v (.agg [(vI v1.2.fCode), (vI v1.2.fIndex)])) (.v (.agg [(vI 0), (vI 0)])) v7 (d4::d5::d6::(dB v15)::(dB v15)::d12::d13::d14::(dB v16)::u19 []), [(b33_0 v1)]⟩) ?_ fun J33j17 => ?_
  ·intro d12 d13 d14 v15 v16 h
   unfold f33_r3 at h
   refine Ops.dn (seqQ.n ?_)
   refine Wp.cd h [2, 3] 1 (fun h => ?_) (fun h => ?_)
   ·refine Wp.sq (Wp.rg (Ops.sg 1 1 (Ops.dn (seqQ.n (Wp.rt (sqQ.r (seqQ.r ?_)))))))
    exact fnQ.r' (X33 n) (fun z => (eB z)) h (RetOk.mk' (dB false) (by kernel_rfl) (by kernel_rfl))
   ·refine Wp.sk (sqQ.n' (seqQ.n (Wp.sq (Wp.sq (Wp.rg (Ops.sg 1 1 ?_))))))
    refine Ops.on 2 (fun h0 e0 => (len_r (T := T) h0 77 3 .plain eI v1.1 (by kernel_rfl))) ?_
    refine Ops.sg 1 3 (Ops.dn (seqQ.n (Wp.bk 0 [2] 1 ?_)))
    have hLx83 : ∀ (kx57 : Nat) (v55 : Int)  (ox56 : Bool ⊕ (Int)), iter (fun (y : Int) => f33_B2 m v1 y) kx57 v55 = some ox56 → ∀ nx58, kx57 ≤ nx58 → (∀ r, ox56 = .inl r → ∀ σ, RetOk (X33 n) (resOf Proofs.Tryz.prog 33) (eB r) σ → (seqQ (X33 n) p33_0 (fnQ (X33 n).E.T (resOf Proofs.Tryz.prog 33) (eB o))) .ret σ) → (∀ (y : Int) , ox56 = .inr y → (seqQ (X33 n) p33_0 (fnQ (X33 n).E.T (resOf Proofs.Tryz.prog 33) (eB o))) .normal ⟨Zs35 v1.1 (v1.1.length : Int) ((dI y)::q16 []), [(b33_0 v1)]⟩) → Lp (X33 n) k33_0 1 p33_1 nx58 ⟨Zs35 v1.1 (v1.1.length : Int) ((dI v55)::q16 []), [(b33_0 v1)]⟩ (blkQ (X33 n) 0 [2] 1 (seqQ (X33 n) p33_0 (fnQ (X33 n).E.T (resOf Proofs.Tryz.prog 33) (eB o)))) := by
     intro kx57
     induction kx57 with
     | zero => intro v55  ox56 h; exact (iter_zero h).elim
     | succ kx57 ihx59 =>
      intro v55  ox56 h nx58 hnx62 hrx60 hxx61
      obtain ⟨nx58, rfl⟩ : ∃ q, nx58 = q + 1 := ⟨nx58 - 1, by omega⟩
      obtain ⟨sx63, h, hsx64⟩ := iter_some h
      have h : f33_B2 m v1 v55 = some sx63 := h
      unfold f33_B2 at h
      refine Lp.succ (Wp.sq (Wp.rg (Ops.sg 1 1 (Ops.dn (seqQ.n (Wp.sq ?_))))))
      refine Wp.cd h k33_0 1 (fun h => ?_) (fun h => ?_)
      ·refine Wp.sk (sqQ.n' (seqQ.n (Wp.sq (Wp.bk 1 k33_0 1 (Wp.sq (Wp.rg ?_))))))
       obtain ⟨v65, ev65, h⟩ := bnd_some h
       refine Ops.on 1 (fun h0 e0 => (ix_r (T := T) h0 77 3 1 .plain eI v1.1 v55 v65 ev65 (by kernel_rfl) (by kernel_rfl) (fun _ => rfl))) ?_
       refine Ops.sg 2 3 (Ops.dn (seqQ.n (Wp.sq (Wp.sq (Wp.rg (Ops.sg 1 1 ?_))))))
       refine Ops.on 2 (fun h0 e0 => (len_r (T := T) h0 77 3 .nonfull eI ([0, 9, 10, 32, 40, 41, 91, 93, 44, 59]) (by kernel_rfl))) ?_
       refine Ops.sg 1 3 (Ops.dn (seqQ.n (Wp.bk 2 [2, 6, 27, 28, 29] 1 ?_)))
       have hLx80 : ∀ (kx71 : Nat) (v69 : Int)  (ox70 : Bool ⊕ (Int)), iter (fun (y : Int) => f33_B1 m v65 y) kx71 v69 = some ox70 → ∀ nx72, kx71 ≤ nx72 → (∀ r, ox70 = .inl r → ∀ σ, RetOk (X33 n) (resOf Proofs.Tryz.prog 33) (eB r) σ → (seqQ (X33 n) p33_3 (blkQ (X33 n) 1 k33_0 1 (seqQ (X33 n) p33_2 (lpQ (X33 n) k33_0 1 p33_1 nx58 (blkQ (X33 n) 0 [2] 1 (seqQ (X33 n) p33_0 (fnQ (X33 n).E.T (resOf Proofs.Tryz.prog 33) (eB o)))))))) .ret σ) → (∀ (y : Int) , ox70 = .inr y → (seqQ (X33 n) p33_3 (blkQ (X33 n) 1 k33_0 1 (seqQ (X33 n) p33_2 (lpQ (X33 n) k33_0 1 p33_1 nx58 (blkQ (X33 n) 0 [2] 1 (seqQ (X33 n) p33_0 (fnQ (X33 n).E.T (resOf Proofs.Tryz.prog 33) (eB o)))))))) .normal ⟨Zs24 v65 v1.1 (v1.1.length : Int) v55 (.v (.sl .nonfull (List.map eI ([0, 9, 10, 32, 40, 41, 91, 93, 44, 59])))) ((([0, 9, 10, 32, 40, 41, 91, 93, 44, 59]).length : Int)) ((dI y)::q10 []), [(b33_0 v1)]⟩) → Lp (X33 n) k33_1 1 (cL (cL (cR (cL (cR (cL (cL (cR (cR p33_1))))))))) nx72 ⟨Zs24 v65 v1.1 (v1.1.length : Int) v55 (.v (.sl .nonfull (List.map eI ([0, 9, 10, 32, 40, 41, 91, 93, 44, 59])))) ((([0, 9, 10, 32, 40, 41, 91, 93, 44, 59]).length : Int)) ((dI v69)::q10 []), [(b33_0 v1)]⟩ (blkQ (X33 n) 2 [2, 6, 27, 28, 29] 1 (seqQ (X33 n) p33_3 (blkQ (X33 n) 1 k33_0 1 (seqQ (X33 n) p33_2 (lpQ (X33 n) k33_0 1 p33_1 nx58 (blkQ (X33 n) 0 [2] 1 (seqQ (X33 n) p33_0 (fnQ (X33 n).E.T (resOf Proofs.Tryz.prog 33) (eB o))))))))) := by
        intro kx71
        induction kx71 with
        | zero => intro v69  ox70 h; exact (iter_zero h).elim
        | succ kx71 ihx73 =>
         intro v69  ox70 h nx72 hnx76 hrx74 hxx75
         obtain ⟨nx72, rfl⟩ : ∃ q, nx72 = q + 1 := ⟨nx72 - 1, by omega⟩
         obtain ⟨sx77, h, hsx78⟩ := iter_some h
         have h : f33_B1 m v65 v69 = some sx77 := h
         unfold f33_B1 at h
         refine Lp.succ (Wp.sq (Wp.rg (Ops.sg 1 1 (Ops.dn (seqQ.n (Wp.sq ?_))))))
         refine Wp.cd h k33_1 1 (fun h => ?_) (fun h => ?_)
         ·refine Wp.sk (sqQ.n' (seqQ.n (Wp.sq (Wp.bk 3 k33_1 1 (Wp.sq (Wp.rg ?_))))))
          obtain ⟨v79, ev79, h⟩ := bnd_some h
          refine Ops.on 1 (fun h0 e0 => (ix_r (T := T) h0 77 3 1 .nonfull eI ([0, 9, 10, 32, 40, 41, 91, 93, 44, 59]) v69 v79 ev79 (by kernel_rfl) (by kernel_rfl) (fun _ => rfl))) ?_
          refine Ops.sg 2 3 (Ops.dn (seqQ.n (Wp.sq (Wp.rg (Ops.sg 3 3 (Ops.dn (seqQ.n ?_)))))))
          refine Wp.cd h k33_1 1 (fun h => ?_) (fun h => ?_)
          ·refine Wp.sq (Wp.rg (Ops.sg 1 1 (Ops.dn (seqQ.n (Wp.rt (sqQ.r (blkQ.r (seqQ.r ?_))))))))
           cases h
           refine lpQ.r (blkQ.r ?_)
           exact hrx74 _ hsx78 _ (RetOk.forget k33_1 (by kernel_rfl) (RetOk.mk' (dB false) (by kernel_rfl) (by kernel_rfl)))
          ·refine Wp.sk (sqQ.n' (blkQ.n' (seqQ.n (Wp.rg (Ops.sg 2 2 (Ops.dn (lpQ.m ⟨Zs24 v65 v1.1 (v1.1.length : Int) v55 (.v (.sl .nonfull (List.map eI ([0, 9, 10, 32, 40, 41, 91, 93, 44, 59])))) ((([0, 9, 10, 32, 40, 41, 91, 93, 44, 59]).length : Int)) ((dI (w64 (v69 + 1)))::q10 []), [(b33_0 v1)]⟩ ?_)))))))
           cases h
           exact ihx73 (w64 (v69 + 1))  _ hsx78 _ (by omega) hrx74 hxx75
         ·refine Wp.ex 2 (sqQ.x (seqQ.x ?_))
          cases h
          refine lpQ.x (blkQ.w ⟨Zs24 v65 v1.1 (v1.1.length : Int) v55 (.v (.sl .nonfull (List.map eI ([0, 9, 10, 32, 40, 41, 91, 93, 44, 59])))) ((([0, 9, 10, 32, 40, 41, 91, 93, 44, 59]).length : Int)) ((dI v69)::q10 []), [(b33_0 v1)]⟩ ?_)
          exact hxx75 v69  hsx78
       refine Wp.loop' k33_1 1 (by kernel_rfl) ⟨Zs24 v65 v1.1 (v1.1.length : Int) v55 (.v (.sl .nonfull (List.map eI ([0, 9, 10, 32, 40, 41, 91, 93, 44, 59])))) ((([0, 9, 10, 32, 40, 41, 91, 93, 44, 59]).length : Int)) ((dI 0)::q10 []), [(b33_0 v1)]⟩ (by kernel_rfl) ?_
       rcases brk_some h with ⟨r82, er82, h⟩ | ⟨y81, ey81, h⟩
       ·refine hLx80 _ 0  _ er82 n (by omega) (fun r er σ hσ => ?_) (fun y  ey => by cases ey)
        cases er
        refine seqQ.r (blkQ.r (seqQ.r (lpQ.r ?_)))
        cases h
        refine blkQ.r ?_
        exact hrx60 _ hsx64 _ (RetOk.forget k33_0 (by kernel_rfl) hσ)
       ·refine hLx80 _ 0  _ ey81 n (by omega) (fun r er => by cases er) (fun y  ey => ?_)
        cases ey
        refine seqQ.n (Wp.sq (Wp.rg (Ops.sg 2 2 (Ops.dn (seqQ.n ?_)))))
        refine Wp.cd h k33_0 1 (fun h => ?_) (fun h => ?_)
        ·refine Wp.sq (Wp.rg (Ops.sg 1 1 (Ops.dn (seqQ.n (Wp.rt (sqQ.r (blkQ.r (seqQ.r ?_))))))))
         cases h
         refine lpQ.r (blkQ.r ?_)
         exact hrx60 _ hsx64 _ (RetOk.forget k33_0 (by kernel_rfl) (RetOk.mk' (dB false) (by kernel_rfl) (by kernel_rfl)))
        ·refine Wp.sk (sqQ.n' (blkQ.n' (seqQ.n (Wp.rg (Ops.sg 2 2 (Ops.dn (lpQ.m ⟨Zs35 v1.1 (v1.1.length : Int) ((dI (w64 (v55 + 1)))::q16 []), [(b33_0 v1)]⟩ ?_)))))))
         cases h
         exact ihx59 (w64 (v55 + 1))  _ hsx64 _ (by omega) hrx60 hxx61
      ·refine Wp.ex 0 (sqQ.x (seqQ.x ?_))
       cases h
       refine lpQ.x (blkQ.w ⟨Zs35 v1.1 (v1.1.length : Int) ((dI v55)::q16 []), [(b33_0 v1)]⟩ ?_)
       exact hxx61 v55  hsx64
    refine Wp.loop' k33_0 1 (by kernel_rfl) ⟨Zs35 v1.1 (v1.1.length : Int) ((dI 0)::q16 []), [(b33_0 v1)]⟩ (by kernel_rfl) ?_
    rcases brk_some h with ⟨r85, er85, h⟩ | ⟨y84, ey84, h⟩
    ·refine hLx83 _ 0  _ er85 n (by omega) (fun r er σ hσ => ?_) (fun y  ey => by cases ey)
     cases er
     refine seqQ.r ?_
     exact fnQ.r' (X33 n) (fun z => (eB z)) h hσ
    ·refine hLx83 _ 0  _ ey84 n (by omega) (fun r er => by cases er) (fun y  ey => ?_)
     cases ey
     refine seqQ.n (Wp.sq (Wp.rg (Ops.sg 1 1 (Ops.dn (seqQ.n (Wp.rt ?_))))))
     exact fnQ.r' (X33 n) (fun z => (eB z)) h (RetOk.mk' (dB true) (by kernel_rfl) (by kernel_rfl))
  refine Ops.hv (fun KQ => ∀ v10 : Bool, f33_r3 m v1 (v10 || (decide ((v1.1.length : Int) > 30))) = some o → KQ 9 ⟨Zs13 a0 v1.1 (.v (.tuple [(vP eI v1.1), (.agg [(vI v1.2.fCode), (vI v1.2.fIndex)])])) (.v (.agg [(vI v1.2.fCode), (vI v1.2.fIndex)])) (.v (.agg [(vI 0), (vI 0)])) v7 (d4::d5::d6::(dB v10)::(dB v10)::u23 []), [(b33_0 v1)]⟩) ?_ fun G33g11 => Ops.sx (G33g11 v8 h)
  intro v10 h
  cases v10
  ·refine Ops.sg 1 10 ?_
   refine Ops.on 11 (fun h0 e0 => (len_r (T := T) h0 77 3 .plain eI v1.1 (by kernel_rfl))) ?_
   refine Ops.sg 2 13 ?_
   exact Ops.sx (J33j17 (dP eI v1.1) (dI (v1.1.length : Int)) (dB (decide ((v1.1.length : Int) > 30))) false (decide ((v1.1.length : Int) > 30)) h)
  ·refine Ops.sg 4 13 ?_
   exact Ops.sx (J33j17 U U U true true h)
 refine Ops.hv (fun KQ => ∀ v2 : Bool, f33_r4 m v1 (v2 || ((v1.1.length : Int) == 0)) = some o → KQ 4 ⟨Zs13 a0 v1.1 (.v (.tuple [(vP eI v1.1), (.agg [(vI v1.2.fCode), (vI v1.2.fIndex)])])) (.v (.agg [(vI v1.2.fCode), (vI v1.2.fIndex)])) (.v (.agg [(vI 0), (vI 0)])) v2 (u28 []), [(b33_0 v1)]⟩) ?_ fun G33g3 => Ops.sx (G33g3 (!((v1.2.fCode == 0) && ((v1.2.fIndex == 0) && true))) h)
 intro v2 h
 cases v2
 ·refine Ops.sg 1 5 ?_
  refine Ops.on 6 (fun h0 e0 => (len_r (T := T) h0 77 3 .plain eI v1.1 (by kernel_rfl))) ?_
  refine Ops.sg 2 8 ?_
  exact Ops.sx (J33j9 (dP eI v1.1) (dI (v1.1.length : Int)) (dB ((v1.1.length : Int) == 0)) false ((v1.1.length : Int) == 0) h)
 ·refine Ops.sg 4 8 ?_
  exact Ops.sx (J33j9 U U U true true h)
def f20_r1 (m : Nat) (v6 : Bool) : Option Bool :=
 some v6
def f20 (m : Nat) (a0 : ByteArray) : Option Bool :=
 bnd (cnd (a0.toList == (⟨#[]⟩ : ByteArray).toList)
 (some true)
 (bnd (f33 m a0) fun v8 =>
 some v8)) fun v6 =>
 f20_r1 m v6
noncomputable abbrev X20 (n : Nat) : Cx := cxOf Proofs.Tryz.prog E 20 n
theorem ok20 (m : Nat) (a0 : ByteArray) (o : Bool) (h : f20 m a0 = some o) (n : Nat) (hn : m + 5 ≤ n) : Fn Proofs.Tryz.prog E n 20 [.v (eS a0)] (eB o) := by
 obtain ⟨n, rfl⟩ : ∃ q, n = q + 1 := ⟨n - 1, by omega⟩
 unfold f20 at h
 refine Fn.of (by kernel_rfl) (by kernel_rfl) (by kernel_rfl) ⟨(.v (.str a0))::u8 [], []⟩ (by kernel_rfl) (Wp.sq (Wp.rg (Ops.sg 1 1 (Ops.dn (seqQ.n (Wp.sq (Wp.rg (Ops.sg 3 3 ?_))))))))
 refine Ops.hv (fun KQ => ∀ (d3 d4 : D) (v5 v6 : Bool), f20_r1 m v6 = some o → KQ 6 ⟨(.v (.str a0))::u1 ((dB false)::(.v (.str a0))::(dB v5)::(dB v5)::d3::d4::(dB v6)::[]), []⟩) ?_ fun J20j7 => ?_
 ·intro d3 d4 v5 v6 h
  unfold f20_r1 at h
  refine Ops.sg 1 7 (Ops.dn (seqQ.n (Wp.rt ?_)))
  exact fnQ.r' (X20 n) (fun z => (eB z)) h (RetOk.mk' (dB v6) (by kernel_rfl) (by kernel_rfl))
 obtain ⟨v6, ev6, h⟩ := bnd_some h
 refine Ops.hv (fun KQ => ∀ v1 : Bool, (cnd v1 (some true) (bnd (f33 m a0) fun v8 => some v8)) = some v6 → KQ 3 ⟨(.v (.str a0))::u1 ((dB false)::(.v (.str a0))::(dB v1)::(dB v1)::u3 []), []⟩) ?_ fun G20g2 => Ops.sx (G20g2 (a0.toList == (⟨#[]⟩ : ByteArray).toList) ev6)
 intro v1 ev6
 cases v1
 ·have ev6 := cnd_f ev6
  refine Ops.sg 1 4 ?_
  obtain ⟨v8, ev8, ev6⟩ := bnd_some ev6
  refine Ops.on 5 (fun h0 e0 => (call_ok (E' := E) (h := h0) (by kernel_rfl) (Args.v (.str a0) (eS a0) (by kernel_rfl) Args.nil) (ok33 m a0 v8 ev8 n (by omega)))) ?_
  refine Ops.sg 1 6 ?_
  exact Ops.sx (J20j7 (.v (.str a0)) (dB v8) false v8 (some_sub (fun v6 => f20_r1 m v6 = some o) ev6 h))
 ·have ev6 := cnd_t ev6
  refine Ops.sg 3 6 ?_
  exact Ops.sx (J20j7 U U true true (some_sub (fun v6 => f20_r1 m v6 = some o) ev6 h))
def f21_B1 (m : Nat) (a0 : (List ByteArray)) (v6 : Int) : Option (Stp Int (Int)) :=
 cnd (decide (v6 < (a0.length : Int)))
 (bnd (idx a0 v6) fun v16 =>
 bnd (f19 m v16) fun v17 =>
 cnd (!v17)
 (some (.ret 10))
 (some (.nxt (w64 (v6 + 1)))))
 (some (.brk v6))
def f21 (m : Nat) (a0 : (List ByteArray)) (a1 : Int) : Option Int :=
 cnd (decide ((a0.length : Int) > a1))
 (some 2)
 (brk (iter (fun (y : Int) => f21_B1 m a0 y) m 0) some fun y19 =>
 some 0)
noncomputable abbrev X21 (n : Nat) : Cx := cxOf Proofs.Tryz.prog E 21 n
noncomputable def C21 : Code := bodyOf Proofs.Tryz.prog 21
theorem ok21 (m : Nat) (a0 : (List ByteArray)) (a1 o : Int) (h : f21 m a0 a1 = some o) (n : Nat) (hn : m + 2 ≤ n) : Fn Proofs.Tryz.prog E n 21 [.v ((eL eS) a0), .v (eI a1)] (eI o) := by
 obtain ⟨n, rfl⟩ : ∃ q, n = q + 1 := ⟨n - 1, by omega⟩
 unfold f21 at h
 refine Fn.of (by kernel_rfl) (by kernel_rfl) (by kernel_rfl) ⟨(dP eS a0)::(dI a1)::u19 [], []⟩ (by kernel_rfl) (Wp.sq (Wp.rg (Ops.sg 1 1 (Ops.dn (seqQ.n (Wp.sq (Wp.sq (Wp.rg (Ops.sg 1 1 ?_)))))))))
 refine Ops.on 2 (fun h0 e0 => (len_r (T := T) h0 29 9 .plain eS a0 (by kernel_rfl))) ?_
 refine Ops.sg 2 4 (Ops.dn (seqQ.n ?_))
 refine Wp.cd h [0, 4] 0 (fun h => ?_) (fun h => ?_)
 ·refine Wp.sq (Wp.rg (Ops.sg 1 1 (Ops.dn (seqQ.n (Wp.rt (sqQ.r (seqQ.r ?_)))))))
  exact fnQ.r' (X21 n) (fun z => (eI z)) h (RetOk.mk' (dI 2) (by kernel_rfl) (by kernel_rfl))
 ·refine Wp.sk (sqQ.n' (seqQ.n (Wp.sq (Wp.sq (Wp.rg (Ops.sg 1 1 ?_))))))
  refine Ops.on 2 (fun h0 e0 => (len_r (T := T) h0 29 9 .plain eS a0 (by kernel_rfl))) ?_
  refine Ops.sg 1 3 (Ops.dn (seqQ.n (Wp.bk 0 [4] 0 ?_)))
  have hLx18 : ∀ (kx8 : Nat) (v6 : Int)  (ox7 : Int ⊕ (Int)), iter (fun (y : Int) => f21_B1 m a0 y) kx8 v6 = some ox7 → ∀ nx9, kx8 ≤ nx9 → (∀ r, ox7 = .inl r → ∀ σ, RetOk (X21 n) (resOf Proofs.Tryz.prog 21) (eI r) σ → (seqQ (X21 n) (cR (cR (cR C21))) (fnQ (X21 n).E.T (resOf Proofs.Tryz.prog 21) (eI o))) .ret σ) → (∀ (y : Int) , ox7 = .inr y → (seqQ (X21 n) (cR (cR (cR C21))) (fnQ (X21 n).E.T (resOf Proofs.Tryz.prog 21) (eI o))) .normal ⟨Zs36 a0 (a0.length : Int) ((dI y)::q7 []), []⟩) → Lp (X21 n) [4, 11, 12, 13] 0 (cL (cL (cR (cL (cR (cR C21)))))) nx9 ⟨Zs36 a0 (a0.length : Int) ((dI v6)::q7 []), []⟩ (blkQ (X21 n) 0 [4] 0 (seqQ (X21 n) (cR (cR (cR C21))) (fnQ (X21 n).E.T (resOf Proofs.Tryz.prog 21) (eI o)))) := by
   intro kx8
   induction kx8 with
   | zero => intro v6  ox7 h; exact (iter_zero h).elim
   | succ kx8 ihx10 =>
    intro v6  ox7 h nx9 hnx13 hrx11 hxx12
    obtain ⟨nx9, rfl⟩ : ∃ q, nx9 = q + 1 := ⟨nx9 - 1, by omega⟩
    obtain ⟨sx14, h, hsx15⟩ := iter_some h
    have h : f21_B1 m a0 v6 = some sx14 := h
    unfold f21_B1 at h
    refine Lp.succ (Wp.sq (Wp.rg (Ops.sg 1 1 (Ops.dn (seqQ.n (Wp.sq ?_))))))
    refine Wp.cd h [4, 11, 12, 13] 0 (fun h => ?_) (fun h => ?_)
    ·refine Wp.sk (sqQ.n' (seqQ.n (Wp.sq (Wp.bk 1 [4, 11, 12, 13] 0 (Wp.sq (Wp.rg ?_))))))
     obtain ⟨v16, ev16, h⟩ := bnd_some h
     refine Ops.on 1 (fun h0 e0 => (ix_r (T := T) h0 29 9 1 .plain eS a0 v6 v16 ev16 (by kernel_rfl) (by kernel_rfl) (fun _ => rfl))) ?_
     refine Ops.sg 2 3 (Ops.dn (seqQ.n (Wp.sq (Wp.rg (Ops.sg 1 1 ?_)))))
     obtain ⟨v17, ev17, h⟩ := bnd_some h
     refine Ops.on 2 (fun h0 e0 => (call_ok (E' := E) (h := h0) (by kernel_rfl) (Args.v (.str v16) (eS v16) (by kernel_rfl) Args.nil) (ok19 m v16 v17 ev17 n (by omega)))) ?_
     refine Ops.sg 1 3 (Ops.dn (seqQ.n ?_))
     refine Wp.cd h [4, 11, 12, 13] 0 (fun h => ?_) (fun h => ?_)
     ·refine Wp.sq (Wp.rg (Ops.sg 1 1 (Ops.dn (seqQ.n (Wp.rt (sqQ.r (blkQ.r (seqQ.r ?_))))))))
      cases h
      refine lpQ.r (blkQ.r ?_)
      exact hrx11 _ hsx15 _ (RetOk.forget [4, 11, 12, 13] (by kernel_rfl) (RetOk.mk' (dI 10) (by kernel_rfl) (by kernel_rfl)))
     ·refine Wp.sk (sqQ.n' (blkQ.n' (seqQ.n (Wp.rg (Ops.sg 2 2 (Ops.dn (lpQ.m ⟨Zs36 a0 (a0.length : Int) ((dI (w64 (v6 + 1)))::q7 []), []⟩ ?_)))))))
      cases h
      exact ihx10 (w64 (v6 + 1))  _ hsx15 _ (by omega) hrx11 hxx12
    ·refine Wp.ex 0 (sqQ.x (seqQ.x ?_))
     cases h
     refine lpQ.x (blkQ.w ⟨Zs36 a0 (a0.length : Int) ((dI v6)::q7 []), []⟩ ?_)
     exact hxx12 v6  hsx15
  refine Wp.loop' [4, 11, 12, 13] 0 (by kernel_rfl) ⟨Zs36 a0 (a0.length : Int) ((dI 0)::q7 []), []⟩ (by kernel_rfl) ?_
  rcases brk_some h with ⟨r20, er20, h⟩ | ⟨y19, ey19, h⟩
  ·refine hLx18 _ 0  _ er20 n (by omega) (fun r er σ hσ => ?_) (fun y  ey => by cases ey)
   cases er
   refine seqQ.r ?_
   exact fnQ.r' (X21 n) (fun z => (eI z)) h hσ
  ·refine hLx18 _ 0  _ ey19 n (by omega) (fun r er => by cases er) (fun y  ey => ?_)
   cases ey
   refine seqQ.n (Wp.sq (Wp.rg (Ops.sg 1 1 (Ops.dn (seqQ.n (Wp.rt ?_))))))
   exact fnQ.r' (X21 n) (fun z => (eI z)) h (RetOk.mk' (dI 0) (by kernel_rfl) (by kernel_rfl))
def f7_B1 (m : Nat) (a0 : S23) (v332 : Int) (v342 : S44) (v350 : Int) : Option (Stp S26 (Int)) :=
 cnd (decide (v350 < v332))
 (bnd (idx a0.fClasses v350) fun v360 =>
 cnd (v360.fName.toList == v342.fName.toList)
 (bnd (f18 m 7 v332) fun v361 =>
 some (.ret v361))
 (some (.nxt (w64 (v350 + 1)))))
 (some (.brk v350))
def f7_r2 (m : Nat) (v332 v449 : Int) (v496 : Bool) : Option (Stp S26 (Int)) :=
 cnd v496
 (bnd (f18 m 3 v332) fun v498 =>
 some (.ret v498))
 (some (.nxt (w64 (v449 + 1))))
def f7_r3 (m : Nat) (v332 v449 : Int) (v459 : S46) (v488 : Bool) : Option (Stp S26 (Int)) :=
 f7_r2 m v332 v449 (v488 || (decide (v459.fWeight > 1000000)))
def f7_r4 (m : Nat) (v332 v449 : Int) (v459 : S46) (v480 : Bool) : Option (Stp S26 (Int)) :=
 f7_r3 m v332 v449 v459 (v480 || (decide (v459.fWeight < 0)))
def f7_r5 (m : Nat) (a0 : S23) (v332 v449 : Int) (v459 : S46) (v468 : Bool) : Option (Stp S26 (Int)) :=
 cnd v468
 (bnd (f18 m 5 v332) fun v470 =>
 some (.ret v470))
 (bnd (f21 m v459.fTags 4) fun v471 =>
 cnd (v471 != 0)
 (bnd (f18 m v471 v332) fun v472 =>
 some (.ret v472))
 (f7_r4 m v332 v449 v459 ((decide (v459.fNext < (-1))) || (decide (v459.fNext ≥ (a0.fClasses.length : Int))))))
def f7_B6 (m : Nat) (a0 : S23) (v332 : Int) (v342 : S44) (v449 : Int) : Option (Stp S26 (Int)) :=
 cnd (decide (v449 < (v342.fItems.length : Int)))
 (bnd (idx v342.fItems v449) fun v459 =>
 bnd (f20 m v459.fBase) fun v460 =>
 bnd (cnd (!v460)
 (some true)
 (bnd (f20 m v459.fForm) fun v499 =>
 some (!v499))) fun v468 =>
 f7_r5 m a0 v332 v449 v459 v468)
 (some (.brk v449))
def f7_B7 (m : Nat) (a0 : S23) (v332 : Int) : Option (Stp S26 (Int)) :=
 cnd (decide (v332 < (a0.fClasses.length : Int)))
 (bnd (idx a0.fClasses v332) fun v342 =>
 bnd (f19 m v342.fName) fun v343 =>
 cnd (!v343)
 (bnd (f18 m 10 v332) fun v344 =>
 some (.ret v344))
 (brk (iter (fun (y : Int) => f7_B1 m a0 v332 v342 y) m 0) (fun r => some (.ret r)) fun y363 =>
 cnd (decide ((v342.fItems.length : Int) > 100))
 (bnd (f18 m 2 v332) fun v365 =>
 some (.ret v365))
 (brk (iter (fun (y : Int) => f7_B6 m a0 v332 v342 y) m 0) (fun r => some (.ret r)) fun y501 =>
 some (.nxt (w64 (v332 + 1))))))
 (some (.brk v332))
def f7_r8 (m : Nat) (a0 : S23) (v6 : Bool) : Option S26 :=
 cnd v6
 (bnd (f18 m 9 (-1)) fun v8 =>
 some v8)
 (brk (iter (fun (y : Int) => f7_B7 m a0 y) m 0) some fun y504 =>
 some ((⟨0, 0⟩ : S26)))
def f7 (m : Nat) (a0 : S23) : Option S26 :=
 f7_r8 m a0 (((a0.fClasses.length : Int) == 0) || (decide ((a0.fClasses.length : Int) > 40)))
noncomputable abbrev X7 (n : Nat) : Cx := cxOf Proofs.Tryz.prog E 7 n
noncomputable def C7 : Code := bodyOf Proofs.Tryz.prog 7
noncomputable abbrev p7_0 : Code := cR (cR (cR (cR C7)))
noncomputable abbrev p7_1 : Code := cL (cL (cR (cL (cR (cR (cR C7))))))
noncomputable abbrev p7_2 : Code := cR (cR (cR p7_1))
noncomputable abbrev p7_3 : Code := cR (cR (cR (cL (cL (cR (cR p7_1))))))
abbrev b7_0 (w0 : S23) : AObj := .cells [(dP e44 w0.fClasses)]
abbrev b7_1 : AObj := .cells [(dI 0), (dI 0)]
abbrev b7_2 (w0 : S44) : AObj := .cells [(.v (.str w0.fName)), (dP e46 w0.fItems)]
abbrev b7_3 (w0 : S46) : AObj := .cells [(.v (.str w0.fBase)), (.v (.str w0.fForm)), (dP eS w0.fTags), (dI w0.fNext), (dI w0.fWeight)]
abbrev k7_0 : List Nat := [1, 2, 3, 21, 22, 23]
abbrev k7_1 : List Nat := [1, 2, 3, 4, 5, 6, 21, 22, 23]
abbrev k7_2 : List Nat := [1, 2, 3, 4, 21, 22, 23, 57, 58, 59]
theorem ok7 (m : Nat) (a0 : S23) (o : S26) (h : f7 m a0 = some o) (n : Nat) (hn : m + 6 ≤ n) : Fn Proofs.Tryz.prog E n 7 [.v (e23 a0)] (e26 o) := by
 obtain ⟨n, rfl⟩ : ∃ q, n = q + 1 := ⟨n - 1, by omega⟩
 unfold f7 at h
 refine Fn.of (by kernel_rfl) (by kernel_rfl) (by kernel_rfl) ⟨(.v (.agg [(vP e44 a0.fClasses)]))::u40 (u40 (u26 [])), []⟩ (by kernel_rfl) (Wp.sq (Wp.rg (Ops.sg 2 2 (Ops.dn (seqQ.n (Wp.sq (Wp.rg (Ops.sg 2 2 ?_))))))))
 refine Ops.on 3 (fun h0 e0 => (len_r (T := T) h0 22 45 .plain e44 a0.fClasses (by kernel_rfl))) ?_
 refine Ops.sg 1 4 (Ops.dn (seqQ.n (Wp.sq (Wp.sq (Wp.rg (Ops.sg 3 3 ?_))))))
 refine Ops.hv (fun KQ => ∀ (d3 d4 : D) (v5 v6 : Bool), f7_r8 m a0 v6 = some o → KQ 6 ⟨Zs32 (.v (.agg [(vP e44 a0.fClasses)])) (a0.fClasses.length : Int) a0.fClasses v5 (d3::d4::(dB v6)::u40 (u40 (u8 []))), [(b7_0 a0), b7_1]⟩) ?_ fun J7j7 => ?_
 ·intro d3 d4 v5 v6 h
  unfold f7_r8 at h
  refine Ops.dn (seqQ.n ?_)
  refine Wp.cd h [1, 2, 3] 2 (fun h => ?_) (fun h => ?_)
  ·refine Wp.sq (Wp.rg ?_)
   obtain ⟨v8, ev8, h⟩ := bnd_some h
   refine Ops.on 1 (fun h0 e0 => (call_ok (E' := E) (h := h0) (by kernel_rfl) (Args.v (vI 9) (eI 9) (by kernel_rfl) (Args.v (vI (-1)) (eI (-1)) (by kernel_rfl) Args.nil)) (ok18 m 9 (-1) v8 ev8 n (by omega)))) ?_
   refine Ops.sg 1 2 (Ops.dn (seqQ.n (Wp.rt (sqQ.r (seqQ.r ?_)))))
   exact fnQ.r' (X7 n) (fun z => (e26 z)) h (RetOk.mk' (.v (.agg [(vI v8.fCode), (vI v8.fIndex)])) (by kernel_rfl) (by kernel_rfl))
  ·refine Wp.sk (sqQ.n' (seqQ.n (Wp.sq (Wp.sq (Wp.rg (Ops.sg 2 2 ?_))))))
   refine Ops.on 3 (fun h0 e0 => (len_r (T := T) h0 22 45 .plain e44 a0.fClasses (by kernel_rfl))) ?_
   refine Ops.sg 1 4 (Ops.dn (seqQ.n (Wp.bk 0 [2] 2 ?_)))
   have hLx503 : ∀ (kx334 : Nat) (v332 : Int)  (ox333 : S26 ⊕ (Int)), iter (fun (y : Int) => f7_B7 m a0 y) kx334 v332 = some ox333 → ∀ nx335, kx334 ≤ nx335 → (∀ r, ox333 = .inl r → ∀ σ, RetOk (X7 n) (resOf Proofs.Tryz.prog 7) (e26 r) σ → (seqQ (X7 n) p7_0 (fnQ (X7 n).E.T (resOf Proofs.Tryz.prog 7) (e26 o))) .ret σ) → (∀ (y : Int) , ox333 = .inr y → (seqQ (X7 n) p7_0 (fnQ (X7 n).E.T (resOf Proofs.Tryz.prog 7) (e26 o))) .normal ⟨Zs16 ((dI (a0.fClasses.length : Int))::q17 ((dP e44 a0.fClasses)::(dI (a0.fClasses.length : Int))::(dI y)::q40 (q40 (q3 [])))), [(b7_0 a0), b7_1]⟩) → Lp (X7 n) k7_0 2 p7_1 nx335 ⟨Zs16 ((dI (a0.fClasses.length : Int))::q17 ((dP e44 a0.fClasses)::(dI (a0.fClasses.length : Int))::(dI v332)::q40 (q40 (q3 [])))), [(b7_0 a0), b7_1]⟩ (blkQ (X7 n) 0 [2] 2 (seqQ (X7 n) p7_0 (fnQ (X7 n).E.T (resOf Proofs.Tryz.prog 7) (e26 o)))) := by
    intro kx334
    induction kx334 with
    | zero => intro v332  ox333 h; exact (iter_zero h).elim
    | succ kx334 ihx336 =>
     intro v332  ox333 h nx335 hnx339 hrx337 hxx338
     obtain ⟨nx335, rfl⟩ : ∃ q, nx335 = q + 1 := ⟨nx335 - 1, by omega⟩
     obtain ⟨sx340, h, hsx341⟩ := iter_some h
     have h : f7_B7 m a0 v332 = some sx340 := h
     unfold f7_B7 at h
     refine Lp.succ (Wp.sq (Wp.rg (Ops.sg 1 1 (Ops.dn (seqQ.n (Wp.sq ?_))))))
     refine Wp.cd h k7_0 2 (fun h => ?_) (fun h => ?_)
     ·refine Wp.sk (sqQ.n' (seqQ.n (Wp.sq (Wp.bk 1 k7_0 2 (Wp.sq (Wp.rg (Ops.sg 1 1 ?_)))))))
      obtain ⟨v342, ev342, h⟩ := bnd_some h
      refine Ops.on 2 (fun h0 e0 => (ix_r (T := T) h0 22 45 2 .plain e44 a0.fClasses v332 v342 ev342 (by kernel_rfl) (by kernel_rfl) (fun _ => rfl))) ?_
      refine Ops.sg 4 6 (Ops.dn (seqQ.n (Wp.sq (Wp.sq (Wp.rg (Ops.sg 2 2 ?_))))))
      obtain ⟨v343, ev343, h⟩ := bnd_some h
      refine Ops.on 3 (fun h0 e0 => (call_ok (E' := E) (h := h0) (by kernel_rfl) (Args.v (.str v342.fName) (eS v342.fName) (by kernel_rfl) Args.nil) (ok19 m v342.fName v343 ev343 n (by omega)))) ?_
      refine Ops.sg 1 4 (Ops.dn (seqQ.n ?_))
      refine Wp.cd h [1, 2, 3, 4, 5, 21, 22, 23] 3 (fun h => ?_) (fun h => ?_)
      ·refine Wp.sq (Wp.rg (Ops.sg 1 1 ?_))
       obtain ⟨v344, ev344, h⟩ := bnd_some h
       refine Ops.on 2 (fun h0 e0 => (call_ok (E' := E) (h := h0) (by kernel_rfl) (Args.v (vI 10) (eI 10) (by kernel_rfl) (Args.v (vI v332) (eI v332) (by kernel_rfl) Args.nil)) (ok18 m 10 v332 v344 ev344 n (by omega)))) ?_
       refine Ops.sg 1 3 (Ops.dn (seqQ.n (Wp.rt (sqQ.r (seqQ.r (blkQ.r (seqQ.r ?_)))))))
       cases h
       refine lpQ.r (blkQ.r ?_)
       exact hrx337 _ hsx341 _ (RetOk.forget k7_0 (by kernel_rfl) (RetOk.mk' (.v (.agg [(vI v344.fCode), (vI v344.fIndex)])) (by kernel_rfl) (by kernel_rfl)))
      ·refine Wp.sk (sqQ.n' (seqQ.n (Wp.sq (Wp.sq (Wp.rg (Ops.sg 1 1 (Ops.dn (seqQ.n (Wp.bk 2 [1, 2, 3, 4, 5, 21, 22, 23] 3 ?_)))))))))
       have hLx362 : ∀ (kx352 : Nat) (v350 : Int)  (ox351 : S26 ⊕ (Int)), iter (fun (y : Int) => f7_B1 m a0 v332 v342 y) kx352 v350 = some ox351 → ∀ nx353, kx352 ≤ nx353 → (∀ r, ox351 = .inl r → ∀ σ, RetOk (X7 n) (resOf Proofs.Tryz.prog 7) (e26 r) σ → (seqQ (X7 n) p7_3 (blkQ (X7 n) 1 k7_0 2 (seqQ (X7 n) p7_2 (lpQ (X7 n) k7_0 2 p7_1 nx335 (blkQ (X7 n) 0 [2] 2 (seqQ (X7 n) p7_0 (fnQ (X7 n).E.T (resOf Proofs.Tryz.prog 7) (e26 o)))))))) .ret σ) → (∀ (y : Int) , ox351 = .inr y → (seqQ (X7 n) p7_3 (blkQ (X7 n) 1 k7_0 2 (seqQ (X7 n) p7_2 (lpQ (X7 n) k7_0 2 p7_1 nx335 (blkQ (X7 n) 0 [2] 2 (seqQ (X7 n) p7_0 (fnQ (X7 n).E.T (resOf Proofs.Tryz.prog 7) (e26 o)))))))) .normal ⟨Zs16 ((dI (a0.fClasses.length : Int))::(dI v332)::(.ptr 2 0)::(dI y)::q14 ((dP e44 a0.fClasses)::(dI (a0.fClasses.length : Int))::(dI v332)::q40 (q40 (q3 [])))), [(b7_0 a0), b7_1, (b7_2 v342)]⟩) → Lp (X7 n) k7_1 3 (cL (cL (cR (cL (cR (cR (cL (cL (cR (cR p7_1)))))))))) nx353 ⟨Zs16 ((dI (a0.fClasses.length : Int))::(dI v332)::(.ptr 2 0)::(dI v350)::q14 ((dP e44 a0.fClasses)::(dI (a0.fClasses.length : Int))::(dI v332)::q40 (q40 (q3 [])))), [(b7_0 a0), b7_1, (b7_2 v342)]⟩ (blkQ (X7 n) 2 [1, 2, 3, 4, 5, 21, 22, 23] 3 (seqQ (X7 n) p7_3 (blkQ (X7 n) 1 k7_0 2 (seqQ (X7 n) p7_2 (lpQ (X7 n) k7_0 2 p7_1 nx335 (blkQ (X7 n) 0 [2] 2 (seqQ (X7 n) p7_0 (fnQ (X7 n).E.T (resOf Proofs.Tryz.prog 7) (e26 o))))))))) := by
        intro kx352
        induction kx352 with
        | zero => intro v350  ox351 h; exact (iter_zero h).elim
        | succ kx352 ihx354 =>
         intro v350  ox351 h nx353 hnx357 hrx355 hxx356
         obtain ⟨nx353, rfl⟩ : ∃ q, nx353 = q + 1 := ⟨nx353 - 1, by omega⟩
         obtain ⟨sx358, h, hsx359⟩ := iter_some h
         have h : f7_B1 m a0 v332 v342 v350 = some sx358 := h
         unfold f7_B1 at h
         refine Lp.succ (Wp.sq (Wp.sq (Wp.rg (Ops.sg 3 3 (Ops.dn (seqQ.n ?_))))))
         refine Wp.cd h k7_1 3 (fun h => ?_) (fun h => ?_)
         ·refine Wp.sk (sqQ.n' (seqQ.n (Wp.sq (Wp.bk 3 k7_1 3 (Wp.sq (Wp.rg (Ops.sg 3 3 ?_)))))))
          obtain ⟨v360, ev360, h⟩ := bnd_some h
          refine Ops.on 4 (fun h0 e0 => (ix_r (T := T) h0 22 45 2 .plain e44 a0.fClasses v350 v360 ev360 (by kernel_rfl) (by kernel_rfl) (fun _ => rfl))) ?_
          refine Ops.sg 5 9 (Ops.dn (seqQ.n ?_))
          refine Wp.cd h k7_1 3 (fun h => ?_) (fun h => ?_)
          ·refine Wp.sq (Wp.rg (Ops.sg 1 1 ?_))
           obtain ⟨v361, ev361, h⟩ := bnd_some h
           refine Ops.on 2 (fun h0 e0 => (call_ok (E' := E) (h := h0) (by kernel_rfl) (Args.v (vI 7) (eI 7) (by kernel_rfl) (Args.v (vI v332) (eI v332) (by kernel_rfl) Args.nil)) (ok18 m 7 v332 v361 ev361 n (by omega)))) ?_
           refine Ops.sg 1 3 (Ops.dn (seqQ.n (Wp.rt (sqQ.r (blkQ.r (seqQ.r ?_))))))
           cases h
           refine lpQ.r (blkQ.r ?_)
           exact hrx355 _ hsx359 _ (RetOk.forget k7_1 (by kernel_rfl) (RetOk.mk' (.v (.agg [(vI v361.fCode), (vI v361.fIndex)])) (by kernel_rfl) (by kernel_rfl)))
          ·refine Wp.sk (sqQ.n' (blkQ.n' (seqQ.n (Wp.rg (Ops.sg 3 3 (Ops.dn (lpQ.m ⟨Zs16 ((dI (a0.fClasses.length : Int))::(dI v332)::(.ptr 2 0)::(dI (w64 (v350 + 1)))::q14 ((dP e44 a0.fClasses)::(dI (a0.fClasses.length : Int))::(dI v332)::q40 (q40 (q3 [])))), [(b7_0 a0), b7_1, (b7_2 v342)]⟩ ?_)))))))
           cases h
           exact ihx354 (w64 (v350 + 1))  _ hsx359 _ (by omega) hrx355 hxx356
         ·refine Wp.ex 2 (sqQ.x (seqQ.x ?_))
          cases h
          refine lpQ.x (blkQ.w ⟨Zs16 ((dI (a0.fClasses.length : Int))::(dI v332)::(.ptr 2 0)::(dI v350)::q14 ((dP e44 a0.fClasses)::(dI (a0.fClasses.length : Int))::(dI v332)::q40 (q40 (q3 [])))), [(b7_0 a0), b7_1, (b7_2 v342)]⟩ ?_)
          exact hxx356 v350  hsx359
       refine Wp.loop' k7_1 3 (by kernel_rfl) ⟨Zs16 ((dI (a0.fClasses.length : Int))::(dI v332)::(.ptr 2 0)::(dI 0)::q14 ((dP e44 a0.fClasses)::(dI (a0.fClasses.length : Int))::(dI v332)::q40 (q40 (q3 [])))), [(b7_0 a0), b7_1, (b7_2 v342)]⟩ (by kernel_rfl) ?_
       rcases brk_some h with ⟨r364, er364, h⟩ | ⟨y363, ey363, h⟩
       ·refine hLx362 _ 0  _ er364 n (by omega) (fun r er σ hσ => ?_) (fun y  ey => by cases ey)
        cases er
        refine seqQ.r (blkQ.r (seqQ.r (lpQ.r ?_)))
        cases h
        refine blkQ.r ?_
        exact hrx337 _ hsx341 _ (RetOk.forget k7_0 (by kernel_rfl) hσ)
       ·refine hLx362 _ 0  _ ey363 n (by omega) (fun r er => by cases er) (fun y  ey => ?_)
        cases ey
        refine seqQ.n (Wp.sq (Wp.sq (Wp.rg (Ops.sg 2 2 ?_))))
        refine Ops.on 3 (fun h0 e0 => (len_r (T := T) h0 43 47 .plain e46 v342.fItems (by kernel_rfl))) ?_
        refine Ops.sg 1 4 (Ops.dn (seqQ.n ?_))
        refine Wp.cd h [1, 2, 3, 4, 5, 21, 22, 23] 3 (fun h => ?_) (fun h => ?_)
        ·refine Wp.sq (Wp.rg (Ops.sg 1 1 ?_))
         obtain ⟨v365, ev365, h⟩ := bnd_some h
         refine Ops.on 2 (fun h0 e0 => (call_ok (E' := E) (h := h0) (by kernel_rfl) (Args.v (vI 2) (eI 2) (by kernel_rfl) (Args.v (vI v332) (eI v332) (by kernel_rfl) Args.nil)) (ok18 m 2 v332 v365 ev365 n (by omega)))) ?_
         refine Ops.sg 1 3 (Ops.dn (seqQ.n (Wp.rt (sqQ.r (seqQ.r (blkQ.r (seqQ.r ?_)))))))
         cases h
         refine lpQ.r (blkQ.r ?_)
         exact hrx337 _ hsx341 _ (RetOk.forget k7_0 (by kernel_rfl) (RetOk.mk' (.v (.agg [(vI v365.fCode), (vI v365.fIndex)])) (by kernel_rfl) (by kernel_rfl)))
        ·refine Wp.sk (sqQ.n' (seqQ.n (Wp.sq (Wp.rg (Ops.sg 2 2 ?_)))))
         refine Ops.on 3 (fun h0 e0 => (len_r (T := T) h0 43 47 .plain e46 v342.fItems (by kernel_rfl))) ?_
         refine Ops.sg 1 4 (Ops.dn (seqQ.n (Wp.bk 4 k7_0 3 ?_)))
         have hLx500 : ∀ (kx451 : Nat) (v449 : Int)  (ox450 : S26 ⊕ (Int)), iter (fun (y : Int) => f7_B6 m a0 v332 v342 y) kx451 v449 = some ox450 → ∀ nx452, kx451 ≤ nx452 → (∀ r, ox450 = .inl r → ∀ σ, RetOk (X7 n) (resOf Proofs.Tryz.prog 7) (e26 r) σ → (blkQ (X7 n) 1 k7_0 2 (seqQ (X7 n) p7_2 (lpQ (X7 n) k7_0 2 p7_1 nx335 (blkQ (X7 n) 0 [2] 2 (seqQ (X7 n) p7_0 (fnQ (X7 n).E.T (resOf Proofs.Tryz.prog 7) (e26 o))))))) .ret σ) → (∀ (y : Int) , ox450 = .inr y → (blkQ (X7 n) 1 k7_0 2 (seqQ (X7 n) p7_2 (lpQ (X7 n) k7_0 2 p7_1 nx335 (blkQ (X7 n) 0 [2] 2 (seqQ (X7 n) p7_0 (fnQ (X7 n).E.T (resOf Proofs.Tryz.prog 7) (e26 o))))))) .normal ⟨Zs16 ((dI (a0.fClasses.length : Int))::(dI v332)::q16 ((dP e44 a0.fClasses)::(dI (a0.fClasses.length : Int))::(dI v332)::q33 ((dP e46 v342.fItems)::(dI (v342.fItems.length : Int))::(dI y)::q40 (q7 [])))), [(b7_0 a0), b7_1, (b7_2 v342)]⟩) → Lp (X7 n) k7_2 3 (cL (cL (cR (cR p7_3)))) nx452 ⟨Zs16 ((dI (a0.fClasses.length : Int))::(dI v332)::q16 ((dP e44 a0.fClasses)::(dI (a0.fClasses.length : Int))::(dI v332)::q33 ((dP e46 v342.fItems)::(dI (v342.fItems.length : Int))::(dI v449)::q40 (q7 [])))), [(b7_0 a0), b7_1, (b7_2 v342)]⟩ (blkQ (X7 n) 4 k7_0 3 (blkQ (X7 n) 1 k7_0 2 (seqQ (X7 n) p7_2 (lpQ (X7 n) k7_0 2 p7_1 nx335 (blkQ (X7 n) 0 [2] 2 (seqQ (X7 n) p7_0 (fnQ (X7 n).E.T (resOf Proofs.Tryz.prog 7) (e26 o)))))))) := by
          intro kx451
          induction kx451 with
          | zero => intro v449  ox450 h; exact (iter_zero h).elim
          | succ kx451 ihx453 =>
           intro v449  ox450 h nx452 hnx456 hrx454 hxx455
           obtain ⟨nx452, rfl⟩ : ∃ q, nx452 = q + 1 := ⟨nx452 - 1, by omega⟩
           obtain ⟨sx457, h, hsx458⟩ := iter_some h
           have h : f7_B6 m a0 v332 v342 v449 = some sx457 := h
           unfold f7_B6 at h
           refine Lp.succ (Wp.sq (Wp.rg (Ops.sg 1 1 (Ops.dn (seqQ.n (Wp.sq ?_))))))
           refine Wp.cd h k7_2 3 (fun h => ?_) (fun h => ?_)
           ·refine Wp.sk (sqQ.n' (seqQ.n (Wp.sq (Wp.bk 5 k7_2 3 (Wp.sq (Wp.rg ?_))))))
            obtain ⟨v459, ev459, h⟩ := bnd_some h
            refine Ops.on 1 (fun h0 e0 => (ix_r (T := T) h0 43 47 5 .plain e46 v342.fItems v449 v459 ev459 (by kernel_rfl) (by kernel_rfl) (fun _ => rfl))) ?_
            refine Ops.sg 3 4 (Ops.dn (seqQ.n (Wp.sq (Wp.sq (Wp.rg (Ops.sg 2 2 ?_))))))
            obtain ⟨v460, ev460, h⟩ := bnd_some h
            refine Ops.on 3 (fun h0 e0 => (call_ok (E' := E) (h := h0) (by kernel_rfl) (Args.v (.str v459.fBase) (eS v459.fBase) (by kernel_rfl) Args.nil) (ok20 m v459.fBase v460 ev460 n (by omega)))) ?_
            refine Ops.sg 2 5 ?_
            refine Ops.hv (fun KQ => ∀ (d463 d464 d465 d466 : D) (v467 v468 : Bool), f7_r5 m a0 v332 v449 v459 v468 = some sx457 → KQ 10 ⟨Zs16 ((dI (a0.fClasses.length : Int))::(dI v332)::q3 ((.ptr 3 0)::q12 ((dP e44 a0.fClasses)::(dI (a0.fClasses.length : Int))::(dI v332)::q33 ((dP e46 v342.fItems)::(dI (v342.fItems.length : Int))::(dI v449)::(dB (decide (v449 < (v342.fItems.length : Int))))::(.vptr [(.str v459.fBase), (.str v459.fForm), (vP eS v459.fTags), (vI v459.fNext), (vI v459.fWeight)])::(.v (.agg [(.str v459.fBase), (.str v459.fForm), (vP eS v459.fTags), (vI v459.fNext), (vI v459.fWeight)]))::(.ptr 3 0)::(.v (.str v459.fBase))::(dB v460)::(dB v467)::(dB v467)::d463::d464::d465::d466::(dB v468)::q34 [])))), [(b7_0 a0), b7_1, (b7_2 v342), (b7_3 v459)]⟩) ?_ fun J7j469 => ?_
            ·intro d463 d464 d465 d466 v467 v468 h
             unfold f7_r5 at h
             refine Ops.dn (seqQ.n ?_)
             refine Wp.cd h [1, 2, 3, 4, 8, 21, 22, 23, 57, 58, 59] 4 (fun h => ?_) (fun h => ?_)
             ·refine Wp.sq (Wp.rg (Ops.sg 1 1 ?_))
              obtain ⟨v470, ev470, h⟩ := bnd_some h
              refine Ops.on 2 (fun h0 e0 => (call_ok (E' := E) (h := h0) (by kernel_rfl) (Args.v (vI 5) (eI 5) (by kernel_rfl) (Args.v (vI v332) (eI v332) (by kernel_rfl) Args.nil)) (ok18 m 5 v332 v470 ev470 n (by omega)))) ?_
              refine Ops.sg 1 3 (Ops.dn (seqQ.n (Wp.rt (sqQ.r (seqQ.r (blkQ.r (seqQ.r ?_)))))))
              cases h
              refine lpQ.r (blkQ.r ?_)
              exact hrx454 _ hsx458 _ (RetOk.forget k7_2 (by kernel_rfl) (RetOk.mk' (.v (.agg [(vI v470.fCode), (vI v470.fIndex)])) (by kernel_rfl) (by kernel_rfl)))
             ·refine Wp.sk (sqQ.n' (seqQ.n (Wp.sq (Wp.sq (Wp.rg (Ops.sg 2 2 ?_))))))
              obtain ⟨v471, ev471, h⟩ := bnd_some h
              refine Ops.on 3 (fun h0 e0 => (call_ok (E' := E) (h := h0) (by kernel_rfl) (Args.v (vP eS v459.fTags) ((eL eS) v459.fTags) (by kernel_rfl) (Args.v (vI 4) (eI 4) (by kernel_rfl) Args.nil)) (ok21 m v459.fTags 4 v471 ev471 n (by omega)))) ?_
              refine Ops.sg 1 4 (Ops.dn (seqQ.n (Wp.sq (Wp.rg (Ops.sg 2 2 (Ops.dn (seqQ.n ?_)))))))
              refine Wp.cd h [1, 2, 3, 4, 8, 21, 22, 23, 57, 58, 59] 4 (fun h => ?_) (fun h => ?_)
              ·refine Wp.sq (Wp.rg (Ops.sg 2 2 ?_))
               obtain ⟨v472, ev472, h⟩ := bnd_some h
               refine Ops.on 3 (fun h0 e0 => (call_ok (E' := E) (h := h0) (by kernel_rfl) (Args.v (vI v471) (eI v471) (by kernel_rfl) (Args.v (vI v332) (eI v332) (by kernel_rfl) Args.nil)) (ok18 m v471 v332 v472 ev472 n (by omega)))) ?_
               refine Ops.sg 1 4 (Ops.dn (seqQ.n (Wp.rt (sqQ.r (seqQ.r (blkQ.r (seqQ.r ?_)))))))
               cases h
               refine lpQ.r (blkQ.r ?_)
               exact hrx454 _ hsx458 _ (RetOk.forget k7_2 (by kernel_rfl) (RetOk.mk' (.v (.agg [(vI v472.fCode), (vI v472.fIndex)])) (by kernel_rfl) (by kernel_rfl)))
              ·refine Wp.sk (sqQ.n' (seqQ.n (Wp.sq (Wp.rg (Ops.sg 4 4 ?_)))))
               refine Ops.hv (fun KQ => ∀ (d475 d476 d477 d478 : D) (v479 v480 : Bool), f7_r4 m v332 v449 v459 v480 = some sx457 → KQ 9 ⟨Zs2 (a0.fClasses.length : Int) v332 v471 a0.fClasses v342.fItems (v342.fItems.length : Int) v449 (decide (v449 < (v342.fItems.length : Int))) (.vptr [(.str v459.fBase), (.str v459.fForm), (vP eS v459.fTags), (vI v459.fNext), (vI v459.fWeight)]) (.v (.agg [(.str v459.fBase), (.str v459.fForm), (vP eS v459.fTags), (vI v459.fNext), (vI v459.fWeight)])) v459.fBase v460 v467 d463 d464 d465 d466 v468 v459.fTags (v471 != 0) v459.fNext v479 (d475::d476::d477::d478::(dB v480)::q15 []), [(b7_0 a0), b7_1, (b7_2 v342), (b7_3 v459)]⟩) ?_ fun J7j481 => ?_
               ·intro d475 d476 d477 d478 v479 v480 h
                unfold f7_r4 at h
                refine Ops.sg 1 10 ?_
                refine Ops.hv (fun KQ => ∀ (d484 d485 d486 : D) (v487 v488 : Bool), f7_r3 m v332 v449 v459 v488 = some sx457 → KQ 14 ⟨Zs2 (a0.fClasses.length : Int) v332 v471 a0.fClasses v342.fItems (v342.fItems.length : Int) v449 (decide (v449 < (v342.fItems.length : Int))) (.vptr [(.str v459.fBase), (.str v459.fForm), (vP eS v459.fTags), (vI v459.fNext), (vI v459.fWeight)]) (.v (.agg [(.str v459.fBase), (.str v459.fForm), (vP eS v459.fTags), (vI v459.fNext), (vI v459.fWeight)])) v459.fBase v460 v467 d463 d464 d465 d466 v468 v459.fTags (v471 != 0) v459.fNext v479 (d475::d476::d477::d478::(dB v487)::(dB v487)::d484::d485::d486::(dB v488)::q10 []), [(b7_0 a0), b7_1, (b7_2 v342), (b7_3 v459)]⟩) ?_ fun J7j489 => ?_
                ·intro d484 d485 d486 v487 v488 h
                 unfold f7_r3 at h
                 refine Ops.sg 1 15 ?_
                 refine Ops.hv (fun KQ => ∀ (d492 d493 d494 : D) (v495 v496 : Bool), f7_r2 m v332 v449 v496 = some sx457 → KQ 19 ⟨Zs2 (a0.fClasses.length : Int) v332 v471 a0.fClasses v342.fItems (v342.fItems.length : Int) v449 (decide (v449 < (v342.fItems.length : Int))) (.vptr [(.str v459.fBase), (.str v459.fForm), (vP eS v459.fTags), (vI v459.fNext), (vI v459.fWeight)]) (.v (.agg [(.str v459.fBase), (.str v459.fForm), (vP eS v459.fTags), (vI v459.fNext), (vI v459.fWeight)])) v459.fBase v460 v467 d463 d464 d465 d466 v468 v459.fTags (v471 != 0) v459.fNext v479 (d475::d476::d477::d478::(dB v487)::(dB v487)::d484::d485::d486::(dB v495)::(dB v495)::d492::d493::d494::(dB v496)::q5 []), [(b7_0 a0), b7_1, (b7_2 v342), (b7_3 v459)]⟩) ?_ fun J7j497 => ?_
                 ·intro d492 d493 d494 v495 v496 h
                  unfold f7_r2 at h
                  refine Ops.dn (seqQ.n ?_)
                  refine Wp.cd h k7_2 4 (fun h => ?_) (fun h => ?_)
                  ·refine Wp.sq (Wp.rg (Ops.sg 1 1 ?_))
                   obtain ⟨v498, ev498, h⟩ := bnd_some h
                   refine Ops.on 2 (fun h0 e0 => (call_ok (E' := E) (h := h0) (by kernel_rfl) (Args.v (vI 3) (eI 3) (by kernel_rfl) (Args.v (vI v332) (eI v332) (by kernel_rfl) Args.nil)) (ok18 m 3 v332 v498 ev498 n (by omega)))) ?_
                   refine Ops.sg 1 3 (Ops.dn (seqQ.n (Wp.rt (sqQ.r (blkQ.r (seqQ.r ?_))))))
                   cases h
                   refine lpQ.r (blkQ.r ?_)
                   exact hrx454 _ hsx458 _ (RetOk.forget k7_2 (by kernel_rfl) (RetOk.mk' (.v (.agg [(vI v498.fCode), (vI v498.fIndex)])) (by kernel_rfl) (by kernel_rfl)))
                  ·refine Wp.sk (sqQ.n' (blkQ.n' (seqQ.n (Wp.rg (Ops.sg 2 2 (Ops.dn (lpQ.m ⟨Zs16 ((dI (a0.fClasses.length : Int))::(dI v332)::q16 ((dP e44 a0.fClasses)::(dI (a0.fClasses.length : Int))::(dI v332)::q33 ((dP e46 v342.fItems)::(dI (v342.fItems.length : Int))::(dI (w64 (v449 + 1)))::q40 (q7 [])))), [(b7_0 a0), b7_1, (b7_2 v342)]⟩ ?_)))))))
                   cases h
                   exact ihx453 (w64 (v449 + 1))  _ hsx458 _ (by omega) hrx454 hxx455
                 refine Ops.hv (fun KQ => ∀ v490 : Bool, f7_r2 m v332 v449 (v490 || (decide (v459.fWeight > 1000000))) = some sx457 → KQ 15 ⟨Zs2 (a0.fClasses.length : Int) v332 v471 a0.fClasses v342.fItems (v342.fItems.length : Int) v449 (decide (v449 < (v342.fItems.length : Int))) (.vptr [(.str v459.fBase), (.str v459.fForm), (vP eS v459.fTags), (vI v459.fNext), (vI v459.fWeight)]) (.v (.agg [(.str v459.fBase), (.str v459.fForm), (vP eS v459.fTags), (vI v459.fNext), (vI v459.fWeight)])) v459.fBase v460 v467 d463 d464 d465 d466 v468 v459.fTags (v471 != 0) v459.fNext v479 (d475::d476::d477::d478::(dB v487)::(dB v487)::d484::d485::d486::(dB v490)::(dB v490)::q9 []), [(b7_0 a0), b7_1, (b7_2 v342), (b7_3 v459)]⟩) ?_ fun G7g491 => Ops.sx (G7g491 v488 h)
                 intro v490 h
                 cases v490
                 ·refine Ops.sg 4 19 ?_
                  exact Ops.sx (J7j497 (.ptr 3 4) (dI v459.fWeight) (dB (decide (v459.fWeight > 1000000))) false (decide (v459.fWeight > 1000000)) h)
                 ·refine Ops.sg 4 19 ?_
                  exact Ops.sx (J7j497 U U U true true h)
                refine Ops.hv (fun KQ => ∀ v482 : Bool, f7_r3 m v332 v449 v459 (v482 || (decide (v459.fWeight < 0))) = some sx457 → KQ 10 ⟨Zs2 (a0.fClasses.length : Int) v332 v471 a0.fClasses v342.fItems (v342.fItems.length : Int) v449 (decide (v449 < (v342.fItems.length : Int))) (.vptr [(.str v459.fBase), (.str v459.fForm), (vP eS v459.fTags), (vI v459.fNext), (vI v459.fWeight)]) (.v (.agg [(.str v459.fBase), (.str v459.fForm), (vP eS v459.fTags), (vI v459.fNext), (vI v459.fWeight)])) v459.fBase v460 v467 d463 d464 d465 d466 v468 v459.fTags (v471 != 0) v459.fNext v479 (d475::d476::d477::d478::(dB v482)::(dB v482)::q14 []), [(b7_0 a0), b7_1, (b7_2 v342), (b7_3 v459)]⟩) ?_ fun G7g483 => Ops.sx (G7g483 v480 h)
                intro v482 h
                cases v482
                ·refine Ops.sg 4 14 ?_
                 exact Ops.sx (J7j489 (.ptr 3 4) (dI v459.fWeight) (dB (decide (v459.fWeight < 0))) false (decide (v459.fWeight < 0)) h)
                ·refine Ops.sg 4 14 ?_
                 exact Ops.sx (J7j489 U U U true true h)
               refine Ops.hv (fun KQ => ∀ v473 : Bool, f7_r4 m v332 v449 v459 (v473 || (decide (v459.fNext ≥ (a0.fClasses.length : Int)))) = some sx457 → KQ 4 ⟨Zs2 (a0.fClasses.length : Int) v332 v471 a0.fClasses v342.fItems (v342.fItems.length : Int) v449 (decide (v449 < (v342.fItems.length : Int))) (.vptr [(.str v459.fBase), (.str v459.fForm), (vP eS v459.fTags), (vI v459.fNext), (vI v459.fWeight)]) (.v (.agg [(.str v459.fBase), (.str v459.fForm), (vP eS v459.fTags), (vI v459.fNext), (vI v459.fWeight)])) v459.fBase v460 v467 d463 d464 d465 d466 v468 v459.fTags (v471 != 0) v459.fNext v473 (q20 []), [(b7_0 a0), b7_1, (b7_2 v342), (b7_3 v459)]⟩) ?_ fun G7g474 => Ops.sx (G7g474 (decide (v459.fNext < (-1))) h)
               intro v473 h
               cases v473
               ·refine Ops.sg 5 9 ?_
                exact Ops.sx (J7j481 (.ptr 3 3) (dI v459.fNext) (dI (a0.fClasses.length : Int)) (dB (decide (v459.fNext ≥ (a0.fClasses.length : Int)))) false (decide (v459.fNext ≥ (a0.fClasses.length : Int))) h)
               ·refine Ops.sg 5 9 ?_
                exact Ops.sx (J7j481 U U U U true true h)
            obtain ⟨v468, ev468, h⟩ := bnd_some h
            refine Ops.hv (fun KQ => ∀ v461 : Bool, (cnd v461 (some true) (bnd (f20 m v459.fForm) fun v499 => some (!v499))) = some v468 → KQ 5 ⟨Zs16 ((dI (a0.fClasses.length : Int))::(dI v332)::q3 ((.ptr 3 0)::q12 ((dP e44 a0.fClasses)::(dI (a0.fClasses.length : Int))::(dI v332)::q33 ((dP e46 v342.fItems)::(dI (v342.fItems.length : Int))::(dI v449)::(dB (decide (v449 < (v342.fItems.length : Int))))::(.vptr [(.str v459.fBase), (.str v459.fForm), (vP eS v459.fTags), (vI v459.fNext), (vI v459.fWeight)])::(.v (.agg [(.str v459.fBase), (.str v459.fForm), (vP eS v459.fTags), (vI v459.fNext), (vI v459.fWeight)]))::(.ptr 3 0)::(.v (.str v459.fBase))::(dB v460)::(dB v461)::(dB v461)::q39 [])))), [(b7_0 a0), b7_1, (b7_2 v342), (b7_3 v459)]⟩) ?_ fun G7g462 => Ops.sx (G7g462 (!v460) ev468)
            intro v461 ev468
            cases v461
            ·have ev468 := cnd_f ev468
             refine Ops.sg 2 7 ?_
             obtain ⟨v499, ev499, ev468⟩ := bnd_some ev468
             refine Ops.on 8 (fun h0 e0 => (call_ok (E' := E) (h := h0) (by kernel_rfl) (Args.v (.str v459.fForm) (eS v459.fForm) (by kernel_rfl) Args.nil) (ok20 m v459.fForm v499 ev499 n (by omega)))) ?_
             refine Ops.sg 2 10 ?_
             exact Ops.sx (J7j469 (.ptr 3 1) (.v (.str v459.fForm)) (dB v499) (dB (!v499)) false (!v499) (some_sub (fun v468 => f7_r5 m a0 v332 v449 v459 v468 = some sx457) ev468 h))
            ·have ev468 := cnd_t ev468
             refine Ops.sg 5 10 ?_
             exact Ops.sx (J7j469 U U U U true true (some_sub (fun v468 => f7_r5 m a0 v332 v449 v459 v468 = some sx457) ev468 h))
           ·refine Wp.ex 4 (sqQ.x (seqQ.x ?_))
            cases h
            refine lpQ.x (blkQ.w ⟨Zs16 ((dI (a0.fClasses.length : Int))::(dI v332)::q16 ((dP e44 a0.fClasses)::(dI (a0.fClasses.length : Int))::(dI v332)::q33 ((dP e46 v342.fItems)::(dI (v342.fItems.length : Int))::(dI v449)::q40 (q7 [])))), [(b7_0 a0), b7_1, (b7_2 v342)]⟩ ?_)
            exact hxx455 v449  hsx458
         refine Wp.loop' k7_2 3 (by kernel_rfl) ⟨Zs16 ((dI (a0.fClasses.length : Int))::(dI v332)::q16 ((dP e44 a0.fClasses)::(dI (a0.fClasses.length : Int))::(dI v332)::q33 ((dP e46 v342.fItems)::(dI (v342.fItems.length : Int))::(dI 0)::q40 (q7 [])))), [(b7_0 a0), b7_1, (b7_2 v342)]⟩ (by kernel_rfl) ?_
         rcases brk_some h with ⟨r502, er502, h⟩ | ⟨y501, ey501, h⟩
         ·refine hLx500 _ 0  _ er502 n (by omega) (fun r er σ hσ => ?_) (fun y  ey => by cases ey)
          cases er
          refine blkQ.r (seqQ.r (lpQ.r ?_))
          cases h
          refine blkQ.r ?_
          exact hrx337 _ hsx341 _ (RetOk.forget k7_0 (by kernel_rfl) hσ)
         ·refine hLx500 _ 0  _ ey501 n (by omega) (fun r er => by cases er) (fun y  ey => ?_)
          cases ey
          refine blkQ.n' (seqQ.n (Wp.rg (Ops.sg 2 2 (Ops.dn (lpQ.m ⟨Zs16 ((dI (a0.fClasses.length : Int))::q17 ((dP e44 a0.fClasses)::(dI (a0.fClasses.length : Int))::(dI (w64 (v332 + 1)))::q40 (q40 (q3 [])))), [(b7_0 a0), b7_1]⟩ ?_)))))
          cases h
          exact ihx336 (w64 (v332 + 1))  _ hsx341 _ (by omega) hrx337 hxx338
     ·refine Wp.ex 0 (sqQ.x (seqQ.x ?_))
      cases h
      refine lpQ.x (blkQ.w ⟨Zs16 ((dI (a0.fClasses.length : Int))::q17 ((dP e44 a0.fClasses)::(dI (a0.fClasses.length : Int))::(dI v332)::q40 (q40 (q3 [])))), [(b7_0 a0), b7_1]⟩ ?_)
      exact hxx338 v332  hsx341
   refine Wp.loop' k7_0 2 (by kernel_rfl) ⟨Zs16 ((dI (a0.fClasses.length : Int))::q17 ((dP e44 a0.fClasses)::(dI (a0.fClasses.length : Int))::(dI 0)::q40 (q40 (q3 [])))), [(b7_0 a0), b7_1]⟩ (by kernel_rfl) ?_
   rcases brk_some h with ⟨r505, er505, h⟩ | ⟨y504, ey504, h⟩
   ·refine hLx503 _ 0  _ er505 n (by omega) (fun r er σ hσ => ?_) (fun y  ey => by cases ey)
    cases er
    refine seqQ.r ?_
    exact fnQ.r' (X7 n) (fun z => (e26 z)) h hσ
   ·refine hLx503 _ 0  _ ey504 n (by omega) (fun r er => by cases er) (fun y  ey => ?_)
    cases ey
    refine seqQ.n (Wp.sq (Wp.rg (Ops.sg 2 2 (Ops.dn (seqQ.n (Wp.rt ?_))))))
    exact fnQ.r' (X7 n) (fun z => (e26 z)) h (RetOk.mk' (.v (.agg [(vI 0), (vI 0)])) (by kernel_rfl) (by kernel_rfl))
 refine Ops.hv (fun KQ => ∀ v1 : Bool, f7_r8 m a0 (v1 || (decide ((a0.fClasses.length : Int) > 40))) = some o → KQ 3 ⟨Zs32 (.v (.agg [(vP e44 a0.fClasses)])) (a0.fClasses.length : Int) a0.fClasses v1 (u40 (u40 (u11 []))), [(b7_0 a0), b7_1]⟩) ?_ fun G7g2 => Ops.sx (G7g2 ((a0.fClasses.length : Int) == 0) h)
 intro v1 h
 cases v1
 ·refine Ops.sg 3 6 ?_
  exact Ops.sx (J7j7 (dI (a0.fClasses.length : Int)) (dB (decide ((a0.fClasses.length : Int) > 40))) false (decide ((a0.fClasses.length : Int) > 40)) h)
 ·refine Ops.sg 3 6 ?_
  exact Ops.sx (J7j7 U U true true h)
def f31_B1 (m : Nat) (a0 a2 : ByteArray) (v4 : Int) : Option (Stp Int (Int)) :=
 cnd (decide (w64 (v4 + (a2.size : Int)) ≤ (a0.size : Int)))
 (bnd (ssub a0 v4 (w64 (v4 + (a2.size : Int)))) fun v14 =>
 cnd (v14.toList == a2.toList)
 (some (.ret v4))
 (some (.nxt (w64 (v4 + 1)))))
 (some (.brk v4))
def f31 (m : Nat) (a0 : ByteArray) (a1 : Int) (a2 : ByteArray) : Option Int :=
 brk (iter (fun (y : Int) => f31_B1 m a0 a2 y) m a1) some fun y16 =>
 some (-1)
noncomputable abbrev X31 (n : Nat) : Cx := cxOf Proofs.Tryz.prog E 31 n
noncomputable def C31 : Code := bodyOf Proofs.Tryz.prog 31
theorem ok31 (m : Nat) (a0 : ByteArray) (a1 : Int) (a2 : ByteArray) (o : Int) (h : f31 m a0 a1 a2 = some o) (n : Nat) (hn : m + 1 ≤ n) : Fn Proofs.Tryz.prog E n 31 [.v (eS a0), .v (eI a1), .v (eS a2)] (eI o) := by
 obtain ⟨n, rfl⟩ : ∃ q, n = q + 1 := ⟨n - 1, by omega⟩
 unfold f31 at h
 refine Fn.of (by kernel_rfl) (by kernel_rfl) (by kernel_rfl) ⟨(.v (.str a0))::(dI a1)::(.v (.str a2))::u25 [], []⟩ (by kernel_rfl) (Wp.sq (Wp.rg (Ops.sg 1 1 (Ops.dn (seqQ.n (Wp.sq (Wp.sq (Wp.rg (Ops.sg 2 2 (Ops.dn (seqQ.n (Wp.bk 0 [6] 0 ?_))))))))))))
 have hLx15 : ∀ (kx6 : Nat) (v4 : Int)  (ox5 : Int ⊕ (Int)), iter (fun (y : Int) => f31_B1 m a0 a2 y) kx6 v4 = some ox5 → ∀ nx7, kx6 ≤ nx7 → (∀ r, ox5 = .inl r → ∀ σ, RetOk (X31 n) (resOf Proofs.Tryz.prog 31) (eI r) σ → (seqQ (X31 n) (cR (cR C31)) (fnQ (X31 n).E.T (resOf Proofs.Tryz.prog 31) (eI o))) .ret σ) → (∀ (y : Int) , ox5 = .inr y → (seqQ (X31 n) (cR (cR C31)) (fnQ (X31 n).E.T (resOf Proofs.Tryz.prog 31) (eI o))) .normal ⟨Zs29 a0 a2 y [], []⟩) → Lp (X31 n) [0, 2, 6, 7] 0 (cL (cL (cR (cL (cR C31))))) nx7 ⟨Zs29 a0 a2 v4 [], []⟩ (blkQ (X31 n) 0 [6] 0 (seqQ (X31 n) (cR (cR C31)) (fnQ (X31 n).E.T (resOf Proofs.Tryz.prog 31) (eI o)))) := by
  intro kx6
  induction kx6 with
  | zero => intro v4  ox5 h; exact (iter_zero h).elim
  | succ kx6 ihx8 =>
   intro v4  ox5 h nx7 hnx11 hrx9 hxx10
   obtain ⟨nx7, rfl⟩ : ∃ q, nx7 = q + 1 := ⟨nx7 - 1, by omega⟩
   obtain ⟨sx12, h, hsx13⟩ := iter_some h
   have h : f31_B1 m a0 a2 v4 = some sx12 := h
   unfold f31_B1 at h
   refine Lp.succ (Wp.sq (Wp.sq (Wp.rg (Ops.sg 7 7 (Ops.dn (seqQ.n ?_))))))
   refine Wp.cd h [0, 2, 6, 7] 0 (fun h => ?_) (fun h => ?_)
   ·refine Wp.sk (sqQ.n' (seqQ.n (Wp.sq (Wp.bk 1 [0, 2, 6, 7] 0 (Wp.sq (Wp.rg (Ops.sg 6 6 ?_)))))))
    obtain ⟨v14, ev14, h⟩ := bnd_some h
    refine Ops.on 7 (fun h0 e0 => (str_sub (T := T) h0 9 a0 v14 (some v4) (some (w64 (v4 + (a2.size : Int)))) ev14 (by kernel_rfl))) ?_
    refine Ops.sg 2 9 (Ops.dn (seqQ.n ?_))
    refine Wp.cd h [0, 2, 6, 7] 0 (fun h => ?_) (fun h => ?_)
    ·refine Wp.sq (Wp.rg (Ops.sg 2 2 (Ops.dn (seqQ.n (Wp.rt (sqQ.r (blkQ.r (seqQ.r ?_))))))))
     cases h
     refine lpQ.r (blkQ.r ?_)
     exact hrx9 _ hsx13 _ (RetOk.forget [0, 2, 6, 7] (by kernel_rfl) (RetOk.mk' (dI v4) (by kernel_rfl) (by kernel_rfl)))
    ·refine Wp.sk (sqQ.n' (blkQ.n' (seqQ.n (Wp.rg (Ops.sg 3 3 (Ops.dn (lpQ.m ⟨Zs29 a0 a2 (w64 (v4 + 1)) [], []⟩ ?_)))))))
     cases h
     exact ihx8 (w64 (v4 + 1))  _ hsx13 _ (by omega) hrx9 hxx10
   ·refine Wp.ex 0 (sqQ.x (seqQ.x ?_))
    cases h
    refine lpQ.x (blkQ.w ⟨Zs29 a0 a2 v4 [], []⟩ ?_)
    exact hxx10 v4  hsx13
 refine Wp.loop' [0, 2, 6, 7] 0 (by kernel_rfl) ⟨Zs29 a0 a2 a1 [], []⟩ (by kernel_rfl) ?_
 rcases brk_some h with ⟨r17, er17, h⟩ | ⟨y16, ey16, h⟩
 ·refine hLx15 _ a1  _ er17 n (by omega) (fun r er σ hσ => ?_) (fun y  ey => by cases ey)
  cases er
  refine seqQ.r ?_
  exact fnQ.r' (X31 n) (fun z => (eI z)) h hσ
 ·refine hLx15 _ a1  _ ey16 n (by omega) (fun r er => by cases er) (fun y  ey => ?_)
  cases ey
  refine seqQ.n (Wp.sq (Wp.rg (Ops.sg 1 1 (Ops.dn (seqQ.n (Wp.rt ?_))))))
  exact fnQ.r' (X31 n) (fun z => (eI z)) h (RetOk.mk' (dI (-1)) (by kernel_rfl) (by kernel_rfl))
end Go.Abs
