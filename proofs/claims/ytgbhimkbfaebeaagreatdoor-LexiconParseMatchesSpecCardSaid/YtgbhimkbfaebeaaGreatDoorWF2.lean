import Derived.Test.YtgbhimkbfaebeaaGreatDoorWF1
namespace Go.Abs
set_option linter.unusedVariables false
set_option linter.unusedSimpArgs false
set_option linter.unnecessarySimpa false
set_option maxRecDepth 100000
def f46_j1 (m : Nat) (v120 v130 v131 : Int) (v132 v133 v138 : Bool) : Option (Stp (Int × Bool) (Int × Int)) :=
 some (.nxt (v130, w64 (v120 + 1)))
def f46_j2 (m : Nat) (v120 v148 : Int) (v155 v156 : Bool) (v158 : Int) : Option (Stp (Int × Bool) (Int × Int)) :=
 f46_j1 m v120 v158 v148 v155 v155 v156
def f46_r3 (m : Nat) (v9 : ByteArray) (v119 v120 v148 : Int) (v155 v156 : Bool) : Option (Stp (Int × Bool) (Int × Int)) :=
 cnd v156
 (some (.ret ((0, false))))
 (cnd (decide (v119 ≤ 1000000))
 (bnd (sidx v9 v120) fun v172 =>
 f46_j2 m v120 v148 v155 v156 (w64 (w64 (10 * v119) + w64 (IntKind.u8.wrap (v172 - 48)))))
 (f46_j2 m v120 v148 v155 v156 v119))
def f46_B4 (m : Nat) (v9 : ByteArray) (v119 v120 : Int) : Option (Stp (Int × Bool) (Int × Int)) :=
 cnd (decide (v120 < (v9.size : Int)))
 (bnd (sidx v9 v120) fun v148 =>
 bnd (cnd (decide (v148 < 48))
 (some true)
 (bnd (sidx v9 v120) fun v173 =>
 some (decide (v173 > 57)))) fun v156 =>
 f46_r3 m v9 v119 v120 v148 (decide (v148 < 48)) v156)
 (some (.brk (v119, v120)))
def f46_j5 (m : Nat) (v198 : Int) : Option (Int × Bool) :=
 some ((v198, true))
def f46_r6 (m : Nat) (a0 v9 : ByteArray) (y175 : Int × Int) (v196 : Bool) : Option (Int × Bool) :=
 cnd v196
 (some ((0, false)))
 (cnd (!(v9.toList == a0.toList))
 (f46_j5 m (w64 (0 - y175.1)))
 (f46_j5 m y175.1))
def f46_r7 (m : Nat) (a0 v9 : ByteArray) (v27 : Bool) : Option (Int × Bool) :=
 cnd v27
 (some ((0, false)))
 (brk (iter (fun (y : Int × Int) => f46_B4 m v9 y.1 y.2) m (0, 0)) some fun y175 =>
 f46_r6 m a0 v9 y175 (((decide ((v9.size : Int) > 19)) || ((((v9.size : Int) == 19) && (((!(Op.bytesLess v9.toList ((⟨#[57, 50, 50, 51, 51, 55, 50, 48, 51, 54, 56, 53, 52, 55, 55, 53, 56, 48, 56]⟩ : ByteArray)).toList || v9.toList == ((⟨#[57, 50, 50, 51, 51, 55, 50, 48, 51, 54, 56, 53, 52, 55, 55, 53, 56, 48, 56]⟩ : ByteArray)).toList)) || ((((v9.toList == ((⟨#[57, 50, 50, 51, 51, 55, 50, 48, 51, 54, 56, 53, 52, 55, 55, 53, 56, 48, 56]⟩ : ByteArray)).toList)) && (v9.toList == a0.toList))))))))))
def f46_j8 (m : Nat) (a0 v9 : ByteArray) : Option (Int × Bool) :=
 bnd (cnd ((v9.size : Int) == 0)
 (some true)
 (bnd (sidx v9 0) fun v224 =>
 cnd (v224 == 48)
 (some (decide ((a0.size : Int) > 1)))
 (some false))) fun v27 =>
 f46_r7 m a0 v9 v27
def f46_r9 (m : Nat) (a0 : ByteArray) (v7 : Bool) : Option (Int × Bool) :=
 cnd v7
 (bnd (ssub a0 1 (a0.size : Int)) fun v227 =>
 f46_j8 m a0 v227)
 (f46_j8 m a0 a0)
def f46 (m : Nat) (a0 : ByteArray) : Option (Int × Bool) :=
 bnd (cnd (decide ((a0.size : Int) > 0))
 (bnd (sidx a0 0) fun v228 =>
 some (v228 == 45))
 (some false)) fun v7 =>
 f46_r9 m a0 v7
noncomputable abbrev X46 (n : Nat) : Cx := cxOf Proofs.Tryz.prog E 46 n
noncomputable def C46 : Code := bodyOf Proofs.Tryz.prog 46
noncomputable abbrev p46_0 : Code := cR (cR (cR (cR (cR (cR C46)))))
noncomputable abbrev p46_1 : Code := cL (cL (cR (cL (cR (cR (cR (cR (cR C46))))))))
noncomputable abbrev p46_2 : Code := cR (cR p46_1)
abbrev k46_0 : List Nat := [0, 2, 3, 4, 5, 6]
theorem ok46 (m : Nat) (a0 : ByteArray) (o : (Int × Bool)) (h : f46 m a0 = some o) (n : Nat) (hn : m + 1 ≤ n) : Fn Proofs.Tryz.prog E n 46 [.v (eS a0)] (.tuple [eI o.1, eB o.2]) := by
 obtain ⟨n, rfl⟩ : ∃ q, n = q + 1 := ⟨n - 1, by omega⟩
 unfold f46 at h
 refine Fn.of (by kernel_rfl) (by kernel_rfl) (by kernel_rfl) ⟨(.v (.str a0))::u40 (u40 (u3 [])), []⟩ (by kernel_rfl) (Wp.sq (Wp.rg (Ops.sg 2 2 (Ops.dn (seqQ.n (Wp.sq (Wp.rg (Ops.sg 1 1 (Ops.dn (seqQ.n (Wp.sq (Wp.rg (Ops.sg 2 2 (Ops.dn (seqQ.n (Wp.sq (Wp.sq (Wp.rg (Ops.sg 4 4 ?_)))))))))))))))))))
 refine Ops.hv (fun KQ => ∀ (d3 d4 d5 : D) (v6 v7 : Bool), f46_r9 m a0 v7 = some o → KQ 8 ⟨Zs26 a0 (a0.size : Int) v6 (d3::d4::d5::(dB v7)::u40 (u28 [])), []⟩) ?_ fun J46j8 => ?_
 ·intro d3 d4 d5 v6 v7 h
  unfold f46_r9 at h
  refine Ops.dn (seqQ.n ?_)
  have J46j15 : ∀ (v9 : ByteArray) (d10 d11 d12 d13 d14 : D), f46_j8 m a0 v9 = some o → (seqQ (X46 n) (cR (cR (cR (cR C46)))) (fnQ (X46 n).E.T (resOf Proofs.Tryz.prog 46) (.tuple [eI o.1, eB o.2]))) .normal ⟨Zs18 a0 v9 (a0.size : Int) v6 d10 d11 d12 v7 (d13::d14::u40 (u26 [])), []⟩ := by
   intro v9 d10 d11 d12 d13 d14 h
   unfold f46_j8 at h
   refine seqQ.n (Wp.sq (Wp.sq (Wp.rg (Ops.sg 4 4 ?_))))
   refine Ops.hv (fun KQ => ∀ (d18 d19 d20 d21 d22 d23 d24 d25 : D) (v26 v27 : Bool), f46_r7 m a0 v9 v27 = some o → KQ 13 ⟨Zs18 a0 v9 (a0.size : Int) v6 d10 d11 d12 v7 (d13::d14::(.v (.str v9))::(dI (v9.size : Int))::(dB v26)::(dB v26)::d18::d19::d20::d21::d22::d23::d24::d25::(dB v27)::u40 (u13 [])), []⟩) ?_ fun J46j28 => ?_
   ·intro d18 d19 d20 d21 d22 d23 d24 d25 v26 v27 h
    unfold f46_r7 at h
    refine Ops.dn (seqQ.n ?_)
    refine Wp.cd h [0, 2, 3, 4, 5] 0 (fun h => ?_) (fun h => ?_)
    ·refine Wp.sq (Wp.rg (Ops.sg 2 2 (Ops.dn (seqQ.n (Wp.rt (sqQ.r (seqQ.r ?_)))))))
     exact fnQ.r' (X46 n) (fun z => (.tuple [eI z.1, eB z.2])) h (RetOk.mk' (.v (.tuple [(vI 0), (vB false)])) (by kernel_rfl) (by kernel_rfl))
    ·refine Wp.sk (sqQ.n' (seqQ.n (Wp.sq (Wp.sq (Wp.rg (Ops.sg 1 1 (Ops.dn (seqQ.n (Wp.bk 0 [0, 2, 3, 4, 5] 0 ?_)))))))))
     have hLx174 : ∀ (kx122 : Nat) (v119 v120 : Int)  (ox121 : (Int × Bool) ⊕ (Int × Int)), iter (fun (y : Int × Int) => f46_B4 m v9 y.1 y.2) kx122 (v119, v120) = some ox121 → ∀ nx123, kx122 ≤ nx123 → (∀ r, ox121 = .inl r → ∀ σ, RetOk (X46 n) (resOf Proofs.Tryz.prog 46) (.tuple [eI r.1, eB r.2]) σ → (seqQ (X46 n) p46_0 (fnQ (X46 n).E.T (resOf Proofs.Tryz.prog 46) (.tuple [eI o.1, eB o.2]))) .ret σ) → (∀ (y : Int × Int) , ox121 = .inr y → (seqQ (X46 n) p46_0 (fnQ (X46 n).E.T (resOf Proofs.Tryz.prog 46) (.tuple [eI o.1, eB o.2]))) .normal ⟨Zs6 a0 y.1 v9 y.2 (q40 (q37 [])), []⟩) → Lp (X46 n) k46_0 0 p46_1 nx123 ⟨Zs6 a0 v119 v9 v120 (q40 (q37 [])), []⟩ (blkQ (X46 n) 0 [0, 2, 3, 4, 5] 0 (seqQ (X46 n) p46_0 (fnQ (X46 n).E.T (resOf Proofs.Tryz.prog 46) (.tuple [eI o.1, eB o.2])))) := by
      intro kx122
      induction kx122 with
      | zero => intro v119 v120  ox121 h; exact (iter_zero h).elim
      | succ kx122 ihx124 =>
       intro v119 v120  ox121 h nx123 hnx127 hrx125 hxx126
       obtain ⟨nx123, rfl⟩ : ∃ q, nx123 = q + 1 := ⟨nx123 - 1, by omega⟩
       obtain ⟨sx128, h, hsx129⟩ := iter_some h
       have h : f46_B4 m v9 v119 v120 = some sx128 := h
       unfold f46_B4 at h
       refine Lp.succ (Wp.sq (Wp.sq (Wp.rg (Ops.sg 4 4 (Ops.dn (seqQ.n ?_))))))
       refine Wp.cd h k46_0 0 (fun h => ?_) (fun h => ?_)
       ·refine Wp.sk (sqQ.n' (seqQ.n (Wp.sq ?_)))
        have J46j147 : ∀ (v130 v131 : Int) (v132 v133 v138 : Bool) (d134 d135 d136 d137 d139 d140 d141 d142 d143 d144 d145 d146 : D), f46_j1 m v120 v130 v131 v132 v133 v138 = some sx128 → (seqQ (X46 n) p46_2 (lpQ (X46 n) k46_0 0 p46_1 nx123 (blkQ (X46 n) 0 [0, 2, 3, 4, 5] 0 (seqQ (X46 n) p46_0 (fnQ (X46 n).E.T (resOf Proofs.Tryz.prog 46) (.tuple [eI o.1, eB o.2])))))) .normal ⟨Zs6 a0 v130 v9 v120 (q24 ((dI v120)::(.v (.str v9))::(dI (v9.size : Int))::(dB (decide (v120 < (v9.size : Int))))::q2 ((.v (.str v9))::(dI v120)::(.v (.int .u8 v131))::(dB v132)::(dB v133)::d134::d135::d136::d137::(dB v138)::(dI v119)::(dB (decide (v119 ≤ 1000000)))::d139::d140::d141::d142::d143::d144::d145::d146::q27 []))), []⟩ := by
         intro v130 v131 v132 v133 v138 d134 d135 d136 d137 d139 d140 d141 d142 d143 d144 d145 d146 h
         unfold f46_j1 at h
         refine seqQ.n (Wp.rg (Ops.sg 3 3 (Ops.dn (lpQ.m ⟨Zs6 a0 v130 v9 (w64 (v120 + 1)) (q40 (q37 [])), []⟩ ?_))))
         cases h
         exact ihx124 v130 (w64 (v120 + 1))  _ hsx129 _ (by omega) hrx125 hxx126
        refine Wp.bk 1 k46_0 0 (Wp.sq (Wp.sq (Wp.rg (Ops.sg 2 2 ?_))))
        obtain ⟨v148, ev148, h⟩ := bnd_some h
        refine Ops.on 3 (fun h0 e0 => (str_ix (T := T) h0 9 v9 v120 v148 ev148 (by kernel_rfl))) ?_
        refine Ops.sg 2 5 ?_
        refine Ops.hv (fun KQ => ∀ (d151 d152 d153 d154 : D) (v155 v156 : Bool), f46_r3 m v9 v119 v120 v148 v155 v156 = some sx128 → KQ 10 ⟨Zs6 a0 v119 v9 v120 (q24 ((dI v120)::(.v (.str v9))::(dI (v9.size : Int))::(dB (decide (v120 < (v9.size : Int))))::q2 ((.v (.str v9))::(dI v120)::(.v (.int .u8 v148))::(dB v155)::(dB v155)::d151::d152::d153::d154::(dB v156)::q37 []))), []⟩) ?_ fun J46j157 => ?_
        ·intro d151 d152 d153 d154 v155 v156 h
         unfold f46_r3 at h
         refine Ops.dn (seqQ.n ?_)
         refine Wp.cd h k46_0 0 (fun h => ?_) (fun h => ?_)
         ·refine Wp.sq (Wp.rg (Ops.sg 2 2 (Ops.dn (seqQ.n (Wp.rt (sqQ.r (seqQ.r (blkQ.r (seqQ.r ?_)))))))))
          cases h
          refine lpQ.r (blkQ.r ?_)
          exact hrx125 _ hsx129 _ (RetOk.forget k46_0 (by kernel_rfl) (RetOk.mk' (.v (.tuple [(vI 0), (vB false)])) (by kernel_rfl) (by kernel_rfl)))
         ·refine Wp.sk (sqQ.n' (seqQ.n (Wp.sq (Wp.rg (Ops.sg 2 2 (Ops.dn (seqQ.n ?_)))))))
          have J46j171 : ∀ (v158 : Int) (d159 d160 d161 d162 d163 d164 d165 d166 d167 d168 d169 d170 : D), f46_j2 m v120 v148 v155 v156 v158 = some sx128 → (blkQ (X46 n) 1 k46_0 0 (seqQ (X46 n) p46_2 (lpQ (X46 n) k46_0 0 p46_1 nx123 (blkQ (X46 n) 0 [0, 2, 3, 4, 5] 0 (seqQ (X46 n) p46_0 (fnQ (X46 n).E.T (resOf Proofs.Tryz.prog 46) (.tuple [eI o.1, eB o.2]))))))) .normal ⟨Zs6 a0 v158 v9 v120 (q24 ((dI v120)::(.v (.str v9))::(dI (v9.size : Int))::(dB (decide (v120 < (v9.size : Int))))::q2 ((.v (.str v9))::(dI v120)::(.v (.int .u8 v148))::(dB v155)::(dB v155)::d159::d160::d161::d162::(dB v156)::(dI v119)::(dB (decide (v119 ≤ 1000000)))::d163::d164::d165::d166::d167::d168::d169::d170::q27 []))), []⟩ := by
           intro v158 d159 d160 d161 d162 d163 d164 d165 d166 d167 d168 d169 d170 h
           unfold f46_j2 at h
           refine blkQ.m ⟨Zs6 a0 v158 v9 v120 (q24 ((dI v120)::(.v (.str v9))::(dI (v9.size : Int))::(dB (decide (v120 < (v9.size : Int))))::q2 ((.v (.str v9))::(dI v120)::(.v (.int .u8 v148))::(dB v155)::(dB v155)::d159::d160::d161::d162::(dB v156)::(dI v119)::(dB (decide (v119 ≤ 1000000)))::d163::d164::d165::d166::d167::d168::d169::d170::q27 []))), []⟩ ?_
           exact J46j147 v158 v148 v155 v155 v156 _ _ _ _ _ _ _ _ _ _ _ _ h
          refine Wp.cd h k46_0 0 (fun h => ?_) (fun h => ?_)
          ·refine Wp.rg (Ops.sg 4 4 ?_)
           obtain ⟨v172, ev172, h⟩ := bnd_some h
           refine Ops.on 5 (fun h0 e0 => (str_ix (T := T) h0 9 v9 v120 v172 ev172 (by kernel_rfl))) ?_
           refine Ops.sg 4 9 (Ops.dn (sqQ.m ⟨Zs6 a0 (w64 (w64 (10 * v119) + w64 (IntKind.u8.wrap (v172 - 48)))) v9 v120 (q24 ((dI v120)::(.v (.str v9))::(dI (v9.size : Int))::(dB (decide (v120 < (v9.size : Int))))::q2 ((.v (.str v9))::(dI v120)::(.v (.int .u8 v148))::(dB v155)::(dB v155)::d151::d152::d153::d154::(dB v156)::(dI v119)::(dB (decide (v119 ≤ 1000000)))::(dI v119)::(dI (w64 (10 * v119)))::(.v (.str v9))::(dI v120)::(.v (.int .u8 v172))::(.v (.int .u8 (IntKind.u8.wrap (v172 - 48))))::(dI (w64 (IntKind.u8.wrap (v172 - 48))))::(dI (w64 (w64 (10 * v119) + w64 (IntKind.u8.wrap (v172 - 48)))))::q27 []))), []⟩ ?_))
           exact J46j171 (w64 (w64 (10 * v119) + w64 (IntKind.u8.wrap (v172 - 48)))) _ _ _ _ _ _ _ _ _ _ _ _ h
          ·refine Wp.sk (sqQ.m ⟨Zs6 a0 v119 v9 v120 (q24 ((dI v120)::(.v (.str v9))::(dI (v9.size : Int))::(dB (decide (v120 < (v9.size : Int))))::q2 ((.v (.str v9))::(dI v120)::(.v (.int .u8 v148))::(dB v155)::(dB v155)::d151::d152::d153::d154::(dB v156)::(dI v119)::(dB (decide (v119 ≤ 1000000)))::q35 []))), []⟩ ?_)
           exact J46j171 v119 _ _ _ _ _ _ _ _ _ _ _ _ h
        obtain ⟨v156, ev156, h⟩ := bnd_some h
        refine Ops.hv (fun KQ => ∀ v149 : Bool, (cnd v149 (some true) (bnd (sidx v9 v120) fun v173 => some (decide (v173 > 57)))) = some v156 → f46_r3 m v9 v119 v120 v148 v149 v156 = some sx128 → KQ 5 ⟨Zs6 a0 v119 v9 v120 (q24 ((dI v120)::(.v (.str v9))::(dI (v9.size : Int))::(dB (decide (v120 < (v9.size : Int))))::q2 ((.v (.str v9))::(dI v120)::(.v (.int .u8 v148))::(dB v149)::(dB v149)::q40 (q2 [])))), []⟩) ?_ fun G46g150 => Ops.sx (G46g150 (decide (v148 < 48)) ev156 h)
        intro v149 ev156 h
        cases v149
        ·have ev156 := cnd_f ev156
         refine Ops.sg 2 7 ?_
         obtain ⟨v173, ev173, ev156⟩ := bnd_some ev156
         refine Ops.on 8 (fun h0 e0 => (str_ix (T := T) h0 9 v9 v120 v173 ev173 (by kernel_rfl))) ?_
         refine Ops.sg 2 10 ?_
         exact Ops.sx (J46j157 (.v (.str v9)) (dI v120) (.v (.int .u8 v173)) (dB (decide (v173 > 57))) false (decide (v173 > 57)) (some_sub (fun v156 => f46_r3 m v9 v119 v120 v148 false v156 = some sx128) ev156 h))
        ·have ev156 := cnd_t ev156
         refine Ops.sg 5 10 ?_
         exact Ops.sx (J46j157 U U U U true true (some_sub (fun v156 => f46_r3 m v9 v119 v120 v148 true v156 = some sx128) ev156 h))
       ·refine Wp.ex 0 (sqQ.x (seqQ.x ?_))
        cases h
        refine lpQ.x (blkQ.w ⟨Zs6 a0 v119 v9 v120 (q40 (q37 [])), []⟩ ?_)
        exact hxx126 (v119, v120)  hsx129
     refine Wp.loop' k46_0 0 (by kernel_rfl) ⟨(.v (.str a0))::q1 ((dI 0)::(dB false)::(dI 0)::(.v (.str v9))::(dI 0)::q40 (q37 [])), []⟩ (by kernel_rfl) ?_
     rcases brk_some h with ⟨r176, er176, h⟩ | ⟨y175, ey175, h⟩
     ·refine hLx174 _ 0 0  _ er176 n (by omega) (fun r er σ hσ => ?_) (fun y  ey => by cases ey)
      cases er
      refine seqQ.r ?_
      exact fnQ.r' (X46 n) (fun z => (.tuple [eI z.1, eB z.2])) h hσ
     ·refine hLx174 _ 0 0  _ ey175 n (by omega) (fun r er => by cases er) (fun y  ey => ?_)
      cases ey
      refine seqQ.n (Wp.sq (Wp.sq (Wp.rg (Ops.sg 4 4 ?_))))
      refine Ops.hv (fun KQ => ∀ (d179 d180 d181 d182 d183 d184 d185 d186 d187 d188 d189 d190 d191 d192 d193 d194 : D) (v195 v196 : Bool), f46_r6 m a0 v9 y175 v196 = some o → KQ 21 ⟨Zs6 a0 y175.1 v9 y175.2 (q40 (q10 ((.v (.str v9))::(dI (v9.size : Int))::(dB v195)::(dB v195)::d179::d180::d181::d182::d183::d184::d185::d186::d187::d188::d189::d190::d191::d192::d193::d194::(dB v196)::q6 []))), []⟩) ?_ fun J46j197 => ?_
      ·intro d179 d180 d181 d182 d183 d184 d185 d186 d187 d188 d189 d190 d191 d192 d193 d194 v195 v196 h
       unfold f46_r6 at h
       refine Ops.dn (seqQ.n ?_)
       refine Wp.cd h [0, 2, 3, 4, 5] 0 (fun h => ?_) (fun h => ?_)
       ·refine Wp.sq (Wp.rg (Ops.sg 2 2 (Ops.dn (seqQ.n (Wp.rt (sqQ.r (seqQ.r ?_)))))))
        exact fnQ.r' (X46 n) (fun z => (.tuple [eI z.1, eB z.2])) h (RetOk.mk' (.v (.tuple [(vI 0), (vB false)])) (by kernel_rfl) (by kernel_rfl))
       ·refine Wp.sk (sqQ.n' (seqQ.n (Wp.sq (Wp.sq (Wp.rg (Ops.sg 3 3 (Ops.dn (seqQ.n ?_))))))))
        have J46j217 : ∀ (v198 : Int) (d199 d200 d201 d202 d203 d204 d205 d206 d207 d208 d209 d210 d211 d212 d213 d214 d215 d216 : D), f46_j5 m v198 = some o → (seqQ (X46 n) (cR (cR p46_0)) (fnQ (X46 n).E.T (resOf Proofs.Tryz.prog 46) (.tuple [eI o.1, eB o.2]))) .normal ⟨Zs6 a0 v198 v9 y175.2 (q40 (q10 ((.v (.str v9))::(dI (v9.size : Int))::(dB v195)::(dB v195)::d199::d200::d201::d202::d203::d204::d205::d206::d207::d208::d209::d210::d211::d212::d213::d214::(dB v196)::(.v (.str v9))::(.v (.str a0))::(dB (!(v9.toList == a0.toList)))::d215::d216::q1 []))), []⟩ := by
         intro v198 d199 d200 d201 d202 d203 d204 d205 d206 d207 d208 d209 d210 d211 d212 d213 d214 d215 d216 h
         unfold f46_j5 at h
         refine seqQ.n (Wp.sq (Wp.rg (Ops.sg 3 3 (Ops.dn (seqQ.n (Wp.rt ?_))))))
         exact fnQ.r' (X46 n) (fun z => (.tuple [eI z.1, eB z.2])) h (RetOk.mk' (.v (.tuple [(vI v198), (vB true)])) (by kernel_rfl) (by kernel_rfl))
        refine Wp.cd h [2, 3, 4] 0 (fun h => ?_) (fun h => ?_)
        ·refine Wp.rg (Ops.sg 3 3 (Ops.dn (sqQ.m ⟨Zs6 a0 (w64 (0 - y175.1)) v9 y175.2 (q40 (q10 ((.v (.str v9))::(dI (v9.size : Int))::(dB v195)::(dB v195)::d179::d180::d181::d182::d183::d184::d185::d186::d187::d188::d189::d190::d191::d192::d193::d194::(dB v196)::(.v (.str v9))::(.v (.str a0))::(dB (!(v9.toList == a0.toList)))::(dI y175.1)::(dI (w64 (0 - y175.1)))::q1 []))), []⟩ ?_)))
         exact J46j217 (w64 (0 - y175.1)) _ _ _ _ _ _ _ _ _ _ _ _ _ _ _ _ _ _ h
        ·refine Wp.sk (sqQ.m ⟨Zs6 a0 y175.1 v9 y175.2 (q40 (q10 ((.v (.str v9))::(dI (v9.size : Int))::(dB v195)::(dB v195)::d179::d180::d181::d182::d183::d184::d185::d186::d187::d188::d189::d190::d191::d192::d193::d194::(dB v196)::(.v (.str v9))::(.v (.str a0))::(dB (!(v9.toList == a0.toList)))::q3 []))), []⟩ ?_)
         exact J46j217 y175.1 _ _ _ _ _ _ _ _ _ _ _ _ _ _ _ _ _ _ h
      refine Ops.hv (fun KQ => ∀ v177 : Bool, f46_r6 m a0 v9 y175 ((v177 || ((((v9.size : Int) == 19) && (((!(Op.bytesLess v9.toList ((⟨#[57, 50, 50, 51, 51, 55, 50, 48, 51, 54, 56, 53, 52, 55, 55, 53, 56, 48, 56]⟩ : ByteArray)).toList || v9.toList == ((⟨#[57, 50, 50, 51, 51, 55, 50, 48, 51, 54, 56, 53, 52, 55, 55, 53, 56, 48, 56]⟩ : ByteArray)).toList)) || ((((v9.toList == ((⟨#[57, 50, 50, 51, 51, 55, 50, 48, 51, 54, 56, 53, 52, 55, 55, 53, 56, 48, 56]⟩ : ByteArray)).toList)) && (v9.toList == a0.toList))))))))) = some o → KQ 4 ⟨Zs6 a0 y175.1 v9 y175.2 (q40 (q10 ((.v (.str v9))::(dI (v9.size : Int))::(dB v177)::(dB v177)::q23 []))), []⟩) ?_ fun G46g178 => Ops.sx (G46g178 (decide ((v9.size : Int) > 19)) h)
      intro v177 h
      cases v177
      ·refine Ops.sg 4 8 ?_
       refine Ops.hv (fun KQ => ∀ v218 : Bool, (f46_r6 m a0 v9 y175 ((false || ((v218 && (((!(Op.bytesLess v9.toList ((⟨#[57, 50, 50, 51, 51, 55, 50, 48, 51, 54, 56, 53, 52, 55, 55, 53, 56, 48, 56]⟩ : ByteArray)).toList || v9.toList == ((⟨#[57, 50, 50, 51, 51, 55, 50, 48, 51, 54, 56, 53, 52, 55, 55, 53, 56, 48, 56]⟩ : ByteArray)).toList)) || ((((v9.toList == ((⟨#[57, 50, 50, 51, 51, 55, 50, 48, 51, 54, 56, 53, 52, 55, 55, 53, 56, 48, 56]⟩ : ByteArray)).toList)) && (v9.toList == a0.toList)))))))))) = some o → KQ 8 ⟨Zs6 a0 y175.1 v9 y175.2 (q40 (q10 ((.v (.str v9))::(dI (v9.size : Int))::(dB false)::(dB false)::(.v (.str v9))::(dI (v9.size : Int))::(dB v218)::(dB v218)::q19 []))), []⟩) ?_ fun G46g219 => Ops.sx (G46g219 ((v9.size : Int) == 19) h)
       intro v218 h
       cases v218
       ·refine Ops.sg 13 21 ?_
        exact Ops.sx (J46j197 (.v (.str v9)) (dI (v9.size : Int)) (dB false) (dB false) U U U U U U U U U U U (dB false) false false h)
       ·refine Ops.sg 3 11 ?_
        refine Ops.hv (fun KQ => ∀ v220 : Bool, (f46_r6 m a0 v9 y175 ((false || ((true && ((v220 || ((((v9.toList == ((⟨#[57, 50, 50, 51, 51, 55, 50, 48, 51, 54, 56, 53, 52, 55, 55, 53, 56, 48, 56]⟩ : ByteArray)).toList)) && (v9.toList == a0.toList)))))))))) = some o → KQ 11 ⟨Zs6 a0 y175.1 v9 y175.2 (q40 (q10 ((.v (.str v9))::(dI (v9.size : Int))::(dB false)::(dB false)::(.v (.str v9))::(dI (v9.size : Int))::(dB true)::(dB true)::(.v (.str v9))::(dB v220)::(dB v220)::q16 []))), []⟩) ?_ fun G46g221 => Ops.sx (G46g221 (!(Op.bytesLess v9.toList ((⟨#[57, 50, 50, 51, 51, 55, 50, 48, 51, 54, 56, 53, 52, 55, 55, 53, 56, 48, 56]⟩ : ByteArray)).toList || v9.toList == ((⟨#[57, 50, 50, 51, 51, 55, 50, 48, 51, 54, 56, 53, 52, 55, 55, 53, 56, 48, 56]⟩ : ByteArray)).toList)) h)
        intro v220 h
        cases v220
        ·refine Ops.sg 3 14 ?_
         refine Ops.hv (fun KQ => ∀ v222 : Bool, (f46_r6 m a0 v9 y175 ((false || ((true && ((false || ((v222 && (v9.toList == a0.toList)))))))))) = some o → KQ 14 ⟨Zs6 a0 y175.1 v9 y175.2 (q40 (q10 ((.v (.str v9))::(dI (v9.size : Int))::(dB false)::(dB false)::(.v (.str v9))::(dI (v9.size : Int))::(dB true)::(dB true)::(.v (.str v9))::(dB false)::(dB false)::(.v (.str v9))::(dB v222)::(dB v222)::q13 []))), []⟩) ?_ fun G46g223 => Ops.sx (G46g223 ((v9.toList == ((⟨#[57, 50, 50, 51, 51, 55, 50, 48, 51, 54, 56, 53, 52, 55, 55, 53, 56, 48, 56]⟩ : ByteArray)).toList)) h)
         intro v222 h
         cases v222
         ·refine Ops.sg 7 21 ?_
          exact Ops.sx (J46j197 (.v (.str v9)) (dI (v9.size : Int)) (dB true) (dB true) (.v (.str v9)) (dB false) (dB false) (.v (.str v9)) (dB false) (dB false) U U U (dB false) (dB false) (dB false) false false h)
         ·refine Ops.sg 7 21 ?_
          exact Ops.sx (J46j197 (.v (.str v9)) (dI (v9.size : Int)) (dB true) (dB true) (.v (.str v9)) (dB false) (dB false) (.v (.str v9)) (dB true) (dB true) (.v (.str v9)) (.v (.str a0)) (dB (v9.toList == a0.toList)) (dB (v9.toList == a0.toList)) (dB (v9.toList == a0.toList)) (dB (v9.toList == a0.toList)) false (v9.toList == a0.toList) h)
        ·refine Ops.sg 10 21 ?_
         exact Ops.sx (J46j197 (.v (.str v9)) (dI (v9.size : Int)) (dB true) (dB true) (.v (.str v9)) (dB true) (dB true) U U U U U U U (dB true) (dB true) false true h)
      ·refine Ops.sg 17 21 ?_
       exact Ops.sx (J46j197 U U U U U U U U U U U U U U U U true true h)
   obtain ⟨v27, ev27, h⟩ := bnd_some h
   refine Ops.hv (fun KQ => ∀ v16 : Bool, (cnd v16 (some true) (bnd (sidx v9 0) fun v224 => cnd (v224 == 48) (some (decide ((a0.size : Int) > 1))) (some false))) = some v27 → KQ 4 ⟨Zs18 a0 v9 (a0.size : Int) v6 d10 d11 d12 v7 (d13::d14::(.v (.str v9))::(dI (v9.size : Int))::(dB v16)::(dB v16)::u40 (u22 [])), []⟩) ?_ fun G46g17 => Ops.sx (G46g17 ((v9.size : Int) == 0) ev27)
   intro v16 ev27
   cases v16
   ·have ev27 := cnd_f ev27
    refine Ops.sg 1 5 ?_
    obtain ⟨v224, ev224, ev27⟩ := bnd_some ev27
    refine Ops.on 6 (fun h0 e0 => (str_ix (T := T) h0 9 v9 0 v224 ev224 (by kernel_rfl))) ?_
    refine Ops.sg 2 8 ?_
    refine Ops.hv (fun KQ => ∀ v225 : Bool, (cnd v225 (some (decide ((a0.size : Int) > 1))) (some false)) = some v27 → KQ 8 ⟨Zs18 a0 v9 (a0.size : Int) v6 d10 d11 d12 v7 (d13::d14::(.v (.str v9))::(dI (v9.size : Int))::(dB false)::(dB false)::(.v (.str v9))::(.v (.int .u8 v224))::(dB v225)::(dB v225)::u40 (u18 [])), []⟩) ?_ fun G46g226 => Ops.sx (G46g226 (v224 == 48) ev27)
    intro v225 ev27
    cases v225
    ·have ev27 := cnd_f ev27
     refine Ops.sg 5 13 ?_
     exact Ops.sx (J46j28 (.v (.str v9)) (.v (.int .u8 v224)) (dB false) (dB false) U U U (dB false) false false (some_sub (fun v27 => f46_r7 m a0 v9 v27 = some o) ev27 h))
    ·have ev27 := cnd_t ev27
     refine Ops.sg 5 13 ?_
     exact Ops.sx (J46j28 (.v (.str v9)) (.v (.int .u8 v224)) (dB true) (dB true) (.v (.str a0)) (dI (a0.size : Int)) (dB (decide ((a0.size : Int) > 1))) (dB (decide ((a0.size : Int) > 1))) false (decide ((a0.size : Int) > 1)) (some_sub (fun v27 => f46_r7 m a0 v9 v27 = some o) ev27 h))
   ·have ev27 := cnd_t ev27
    refine Ops.sg 9 13 ?_
    exact Ops.sx (J46j28 U U U U U U U U true true (some_sub (fun v27 => f46_r7 m a0 v9 v27 = some o) ev27 h))
  refine Wp.cd h [0, 2, 3, 4, 5] 0 (fun h => ?_) (fun h => ?_)
  ·refine Wp.rg (Ops.sg 1 1 ?_)
   obtain ⟨v227, ev227, h⟩ := bnd_some h
   refine Ops.on 2 (fun h0 e0 => (str_sub (T := T) h0 9 a0 v227 (some 1) none ev227 (by kernel_rfl))) ?_
   refine Ops.sg 1 3 (Ops.dn (sqQ.m ⟨Zs18 a0 v227 (a0.size : Int) v6 d3 d4 d5 v7 ((.v (.str a0))::(.v (.str v227))::u40 (u26 [])), []⟩ ?_))
   exact J46j15 v227 _ _ _ _ _ h
  ·refine Wp.sk (sqQ.m ⟨Zs26 a0 (a0.size : Int) v6 (d3::d4::d5::(dB v7)::u40 (u28 [])), []⟩ ?_)
   exact J46j15 a0 _ _ _ _ _ h
 obtain ⟨v7, ev7, h⟩ := bnd_some h
 refine Ops.hv (fun KQ => ∀ v1 : Bool, (cnd v1 (bnd (sidx a0 0) fun v228 => some (v228 == 45)) (some false)) = some v7 → KQ 4 ⟨Zs26 a0 (a0.size : Int) v1 (u40 (u32 [])), []⟩) ?_ fun G46g2 => Ops.sx (G46g2 (decide ((a0.size : Int) > 0)) ev7)
 intro v1 ev7
 cases v1
 ·have ev7 := cnd_f ev7
  refine Ops.sg 4 8 ?_
  exact Ops.sx (J46j8 U U U false false (some_sub (fun v7 => f46_r9 m a0 v7 = some o) ev7 h))
 ·have ev7 := cnd_t ev7
  refine Ops.sg 1 5 ?_
  obtain ⟨v228, ev228, ev7⟩ := bnd_some ev7
  refine Ops.on 6 (fun h0 e0 => (str_ix (T := T) h0 9 a0 0 v228 ev228 (by kernel_rfl))) ?_
  refine Ops.sg 2 8 ?_
  exact Ops.sx (J46j8 (.v (.str a0)) (.v (.int .u8 v228)) (dB (v228 == 45)) true (v228 == 45) (some_sub (fun v7 => f46_r9 m a0 v7 = some o) ev7 h))
def f32_j1 (m : Nat) (a0 : ByteArray) (v45 : Int) (v46 : (List ByteArray)) (v66 : Int) : Option (Stp (S46 × Bool) (Int × (List ByteArray))) :=
 bnd (ssub a0 v45 v66) fun v68 =>
 bnd (app 16 v46 [v68]) fun v69 =>
 some (.nxt (w64 (v66 + 1), v69))
def f32_r2 (m : Nat) (a0 : ByteArray) (v11 v45 : Int) (v46 : (List ByteArray)) (v62 : Bool) : Option (Stp (S46 × Bool) (Int × (List ByteArray))) :=
 cnd v62
 (bnd (ssub a0 0 v11) fun v64 =>
 bnd (f31 m v64 v45 (⟨#[44]⟩ : ByteArray)) fun v65 =>
 cnd (decide (v65 < 0))
 (f32_j1 m a0 v45 v46 v11)
 (f32_j1 m a0 v45 v46 v65))
 (some (.brk (v45, v46)))
def f32_B3 (m : Nat) (a0 : ByteArray) (v10 v11 v45 : Int) (v46 : (List ByteArray)) : Option (Stp (S46 × Bool) (Int × (List ByteArray))) :=
 f32_r2 m a0 v11 v45 v46 ((decide (v11 > w64 (v10 + 2))) && (decide (v45 ≤ v11)))
def f32_r4 (m : Nat) (v13 v14 : ByteArray) (y71 : Int × (List ByteArray)) (v74 v76 : (Int × Bool)) (v81 : Bool) : Option (S46 × Bool) :=
 some (((⟨v13, v14, y71.2, v74.1, v76.1⟩ : S46), v81))
def f32_r5 (m : Nat) (a0 : ByteArray) (v7 : Bool) : Option (S46 × Bool) :=
 cnd v7
 (some (((⟨ByteArray.empty, ByteArray.empty, [], 0, 0⟩ : S46), false)))
 (bnd (f31 m a0 6 ((⟨#[41, 40]⟩ : ByteArray))) fun v9 =>
 cnd (decide (v9 < 0))
 (some (((⟨ByteArray.empty, ByteArray.empty, [], 0, 0⟩ : S46), false)))
 (bnd (f31 m a0 (w64 (v9 + 2)) ((⟨#[41, 91]⟩ : ByteArray))) fun v10 =>
 cnd (decide (v10 < 0))
 (some (((⟨ByteArray.empty, ByteArray.empty, [], 0, 0⟩ : S46), false)))
 (bnd (f31 m a0 (w64 (v10 + 2)) ((⟨#[93, 32]⟩ : ByteArray))) fun v11 =>
 cnd (decide (v11 < 0))
 (some (((⟨ByteArray.empty, ByteArray.empty, [], 0, 0⟩ : S46), false)))
 (bnd (f31 m a0 (w64 (v11 + 2)) (⟨#[32]⟩ : ByteArray)) fun v12 =>
 cnd (decide (v12 < 0))
 (some (((⟨ByteArray.empty, ByteArray.empty, [], 0, 0⟩ : S46), false)))
 (bnd (ssub a0 6 v9) fun v13 =>
 bnd (ssub a0 (w64 (v9 + 2)) v10) fun v14 =>
 brk (iter (fun (y : Int × (List ByteArray)) => f32_B3 m a0 v10 v11 y.1 y.2) m (w64 (v10 + 2), [])) some fun y71 =>
 bnd (ssub a0 (w64 (v11 + 2)) v12) fun v73 =>
 bnd (f46 m v73) fun v74 =>
 bnd (ssub a0 (w64 (v12 + 1)) (a0.size : Int)) fun v75 =>
 bnd (f46 m v75) fun v76 =>
 f32_r4 m v13 v14 y71 v74 v76 (v74.2 && v76.2))))))
def f32 (m : Nat) (a0 : ByteArray) : Option (S46 × Bool) :=
 bnd (cnd (decide ((a0.size : Int) < 6))
 (some true)
 (bnd (ssub a0 0 6) fun v83 =>
 some (!(v83.toList == ((⟨#[105, 116, 101, 109, 32, 40]⟩ : ByteArray)).toList)))) fun v7 =>
 f32_r5 m a0 v7
noncomputable abbrev X32 (n : Nat) : Cx := cxOf Proofs.Tryz.prog E 32 n
noncomputable def C32 : Code := bodyOf Proofs.Tryz.prog 32
noncomputable abbrev p32_0 : Code := cR (cR (cR (cR (cR (cR (cR (cR (cR (cR (cR (cR (cR C32))))))))))))
noncomputable abbrev p32_1 : Code := cL (cL (cR (cL (cR (cR (cR (cR (cR (cR (cR (cR (cR (cR (cR (cR C32)))))))))))))))
noncomputable abbrev p32_2 : Code := cR (cR (cL (cR p32_1)))
abbrev b32_0 : AObj := .cells [(.v (.str ByteArray.empty)), (.v (.str ByteArray.empty)), (.v (.sl .nil (List.map eS []))), (dI 0), (dI 0)]
abbrev k32_0 : List Nat := [0, 2, 3, 4, 6, 7, 8, 9]
theorem ok32 (m : Nat) (a0 : ByteArray) (o : (S46 × Bool)) (h : f32 m a0 = some o) (n : Nat) (hn : m + 2 ≤ n) : Fn Proofs.Tryz.prog E n 32 [.v (eS a0)] (.tuple [e46 o.1, eB o.2]) := by
 obtain ⟨n, rfl⟩ : ∃ q, n = q + 1 := ⟨n - 1, by omega⟩
 unfold f32 at h
 refine Fn.of (by kernel_rfl) (by kernel_rfl) (by kernel_rfl) ⟨(.v (.str a0))::u40 (u40 (u31 [])), []⟩ (by kernel_rfl) (Wp.sq (Wp.rg (Ops.sg 2 2 (Ops.dn (seqQ.n (Wp.sq (Wp.rg (Ops.sg 1 1 (Ops.dn (seqQ.n (Wp.sq (Wp.sq (Wp.rg (Ops.sg 4 4 ?_))))))))))))))
 refine Ops.hv (fun KQ => ∀ (d3 d4 d5 : D) (v6 v7 : Bool), f32_r5 m a0 v7 = some o → KQ 8 ⟨(.v (.str a0))::u1 ((.ptr 0 0)::(dB false)::(.ptr 1 0)::u8 ((.v (.str a0))::(dI (a0.size : Int))::(dB v6)::(dB v6)::d3::d4::d5::(dB v7)::u40 (u40 (u11 [])))), [b32_0, b32_0]⟩) ?_ fun J32j8 => ?_
 ·intro d3 d4 d5 v6 v7 h
  unfold f32_r5 at h
  refine Ops.dn (seqQ.n ?_)
  refine Wp.cd h [0, 2, 3, 4] 2 (fun h => ?_) (fun h => ?_)
  ·refine Wp.sq (Wp.rg (Ops.sg 3 3 (Ops.dn (seqQ.n (Wp.rt (sqQ.r (seqQ.r ?_)))))))
   exact fnQ.r' (X32 n) (fun z => (.tuple [e46 z.1, eB z.2])) h (RetOk.mk' (.v (.tuple [(.agg [(.str ByteArray.empty), (.str ByteArray.empty), (.sl .nil (List.map eS [])), (vI 0), (vI 0)]), (vB false)])) (by kernel_rfl) (by kernel_rfl))
  ·refine Wp.sk (sqQ.n' (seqQ.n (Wp.sq (Wp.rg (Ops.sg 1 1 ?_)))))
   obtain ⟨v9, ev9, h⟩ := bnd_some h
   refine Ops.on 2 (fun h0 e0 => (call_ok (E' := E) (h := h0) (by kernel_rfl) (Args.v (.str a0) (eS a0) (by kernel_rfl) (Args.v (vI 6) (eI 6) (by kernel_rfl) (Args.v (.str ((⟨#[41, 40]⟩ : ByteArray))) (eS ((⟨#[41, 40]⟩ : ByteArray))) (by kernel_rfl) Args.nil))) (ok31 m a0 6 ((⟨#[41, 40]⟩ : ByteArray)) v9 ev9 n (by omega)))) ?_
   refine Ops.sg 1 3 (Ops.dn (seqQ.n (Wp.sq (Wp.sq (Wp.rg (Ops.sg 2 2 (Ops.dn (seqQ.n ?_))))))))
   refine Wp.cd h [0, 2, 3, 4, 5] 3 (fun h => ?_) (fun h => ?_)
   ·refine Wp.sq (Wp.rg (Ops.sg 3 3 (Ops.dn (seqQ.n (Wp.rt (sqQ.r (seqQ.r ?_)))))))
    exact fnQ.r' (X32 n) (fun z => (.tuple [e46 z.1, eB z.2])) h (RetOk.mk' (.v (.tuple [(.agg [(.str ByteArray.empty), (.str ByteArray.empty), (.sl .nil (List.map eS [])), (vI 0), (vI 0)]), (vB false)])) (by kernel_rfl) (by kernel_rfl))
   ·refine Wp.sk (sqQ.n' (seqQ.n (Wp.sq (Wp.rg (Ops.sg 3 3 ?_)))))
    obtain ⟨v10, ev10, h⟩ := bnd_some h
    refine Ops.on 4 (fun h0 e0 => (call_ok (E' := E) (h := h0) (by kernel_rfl) (Args.v (.str a0) (eS a0) (by kernel_rfl) (Args.v (vI (w64 (v9 + 2))) (eI (w64 (v9 + 2))) (by kernel_rfl) (Args.v (.str ((⟨#[41, 91]⟩ : ByteArray))) (eS ((⟨#[41, 91]⟩ : ByteArray))) (by kernel_rfl) Args.nil))) (ok31 m a0 (w64 (v9 + 2)) ((⟨#[41, 91]⟩ : ByteArray)) v10 ev10 n (by omega)))) ?_
    refine Ops.sg 1 5 (Ops.dn (seqQ.n (Wp.sq (Wp.sq (Wp.rg (Ops.sg 2 2 (Ops.dn (seqQ.n ?_))))))))
    refine Wp.cd h [0, 2, 3, 4, 5, 6] 4 (fun h => ?_) (fun h => ?_)
    ·refine Wp.sq (Wp.rg (Ops.sg 3 3 (Ops.dn (seqQ.n (Wp.rt (sqQ.r (seqQ.r ?_)))))))
     exact fnQ.r' (X32 n) (fun z => (.tuple [e46 z.1, eB z.2])) h (RetOk.mk' (.v (.tuple [(.agg [(.str ByteArray.empty), (.str ByteArray.empty), (.sl .nil (List.map eS [])), (vI 0), (vI 0)]), (vB false)])) (by kernel_rfl) (by kernel_rfl))
    ·refine Wp.sk (sqQ.n' (seqQ.n (Wp.sq (Wp.rg (Ops.sg 3 3 ?_)))))
     obtain ⟨v11, ev11, h⟩ := bnd_some h
     refine Ops.on 4 (fun h0 e0 => (call_ok (E' := E) (h := h0) (by kernel_rfl) (Args.v (.str a0) (eS a0) (by kernel_rfl) (Args.v (vI (w64 (v10 + 2))) (eI (w64 (v10 + 2))) (by kernel_rfl) (Args.v (.str ((⟨#[93, 32]⟩ : ByteArray))) (eS ((⟨#[93, 32]⟩ : ByteArray))) (by kernel_rfl) Args.nil))) (ok31 m a0 (w64 (v10 + 2)) ((⟨#[93, 32]⟩ : ByteArray)) v11 ev11 n (by omega)))) ?_
     refine Ops.sg 1 5 (Ops.dn (seqQ.n (Wp.sq (Wp.sq (Wp.rg (Ops.sg 2 2 (Ops.dn (seqQ.n ?_))))))))
     refine Wp.cd h [0, 2, 3, 4, 5, 6, 7] 5 (fun h => ?_) (fun h => ?_)
     ·refine Wp.sq (Wp.rg (Ops.sg 3 3 (Ops.dn (seqQ.n (Wp.rt (sqQ.r (seqQ.r ?_)))))))
      exact fnQ.r' (X32 n) (fun z => (.tuple [e46 z.1, eB z.2])) h (RetOk.mk' (.v (.tuple [(.agg [(.str ByteArray.empty), (.str ByteArray.empty), (.sl .nil (List.map eS [])), (vI 0), (vI 0)]), (vB false)])) (by kernel_rfl) (by kernel_rfl))
     ·refine Wp.sk (sqQ.n' (seqQ.n (Wp.sq (Wp.rg (Ops.sg 3 3 ?_)))))
      obtain ⟨v12, ev12, h⟩ := bnd_some h
      refine Ops.on 4 (fun h0 e0 => (call_ok (E' := E) (h := h0) (by kernel_rfl) (Args.v (.str a0) (eS a0) (by kernel_rfl) (Args.v (vI (w64 (v11 + 2))) (eI (w64 (v11 + 2))) (by kernel_rfl) (Args.v (.str (⟨#[32]⟩ : ByteArray)) (eS (⟨#[32]⟩ : ByteArray)) (by kernel_rfl) Args.nil))) (ok31 m a0 (w64 (v11 + 2)) (⟨#[32]⟩ : ByteArray) v12 ev12 n (by omega)))) ?_
      refine Ops.sg 1 5 (Ops.dn (seqQ.n (Wp.sq (Wp.sq (Wp.rg (Ops.sg 2 2 (Ops.dn (seqQ.n ?_))))))))
      refine Wp.cd h [0, 2, 3, 4, 5, 6, 7, 8] 6 (fun h => ?_) (fun h => ?_)
      ·refine Wp.sq (Wp.rg (Ops.seg 3 3 (by kernel_rfl) ⟨Zs11 a0 ((dI v9)::(dI v10)::(dI v11)::(dI v12)::q32 ((.v (.str a0))::(dI v11)::(dI (w64 (v11 + 2)))::(dI v12)::(dI v12)::(dB (decide (v12 < 0)))::(.v (.agg [(.str ByteArray.empty), (.str ByteArray.empty), (.sl .nil (List.map eS [])), (vI 0), (vI 0)]))::q40 (q24 []))), [b32_0, b32_0, .dead, .dead, .dead, .dead]⟩ (by kernel_rfl) (Ops.dn (seqQ.n (Wp.rt (sqQ.r (seqQ.r ?_)))))))
       exact fnQ.r' (X32 n) (fun z => (.tuple [e46 z.1, eB z.2])) h (RetOk.mk' (.v (.tuple [(.agg [(.str ByteArray.empty), (.str ByteArray.empty), (.sl .nil (List.map eS [])), (vI 0), (vI 0)]), (vB false)])) (by kernel_rfl) (by kernel_rfl))
      ·refine Wp.sk (sqQ.n' (seqQ.n (Wp.sq (Wp.rg (Ops.seg 2 2 (by kernel_rfl) ⟨Zs11 a0 ((dI v9)::(dI v10)::(dI v11)::(dI v12)::q39 ((.v (.str a0))::(dI v9)::q40 (q22 []))), [b32_0, b32_0, .dead, .dead, .dead, .dead, .dead]⟩ (by kernel_rfl) ?_)))))
       obtain ⟨v13, ev13, h⟩ := bnd_some h
       refine Ops.on 3 (fun h0 e0 => (str_sub (T := T) h0 9 a0 v13 (some 6) (some v9) ev13 (by kernel_rfl))) ?_
       refine Ops.sg 4 7 ?_
       obtain ⟨v14, ev14, h⟩ := bnd_some h
       refine Ops.on 8 (fun h0 e0 => (str_sub (T := T) h0 9 a0 v14 (some (w64 (v9 + 2))) (some v10) ev14 (by kernel_rfl))) ?_
       refine Ops.sg 4 12 (Ops.dn (seqQ.n (Wp.sq (Wp.sq (Wp.rg (Ops.sg 3 3 (Ops.dn (seqQ.n (Wp.bk 0 [0, 2, 3, 4, 7, 8] 7 ?_)))))))))
       have hLx70 : ∀ (kx48 : Nat) (v45 : Int) (v46 : (List ByteArray))  (ox47 : (S46 × Bool) ⊕ (Int × (List ByteArray))), iter (fun (y : Int × (List ByteArray)) => f32_B3 m a0 v10 v11 y.1 y.2) kx48 (v45, v46) = some ox47 → ∀ nx49, kx48 ≤ nx49 → (∀ r, ox47 = .inl r → ∀ σ, RetOk (X32 n) (resOf Proofs.Tryz.prog 32) (.tuple [e46 r.1, eB r.2]) σ → (seqQ (X32 n) p32_0 (fnQ (X32 n).E.T (resOf Proofs.Tryz.prog 32) (.tuple [e46 o.1, eB o.2]))) .ret σ) → (∀ (y : Int × (List ByteArray)) , ox47 = .inr y → (seqQ (X32 n) p32_0 (fnQ (X32 n).E.T (resOf Proofs.Tryz.prog 32) (.tuple [e46 o.1, eB o.2]))) .normal ⟨Zs11 a0 (q2 ((dI v11)::(dI v12)::q40 (q40 (q23 [])))), [b32_0, (.cells [(.v (.str v13)), (.v (.str v14)), (appD 7 (List.map eS y.2)), (dI 0), (dI 0)]), .dead, .dead, .dead, .dead, .dead, (appO 1 (List.map eS y.2))]⟩) → Lp (X32 n) k32_0 7 p32_1 nx49 ⟨Zs11 a0 (q1 ((dI v10)::(dI v11)::(dI v12)::(dI v45)::q40 (q40 (q22 [])))), [b32_0, (.cells [(.v (.str v13)), (.v (.str v14)), (appD 7 (List.map eS v46)), (dI 0), (dI 0)]), .dead, .dead, .dead, .dead, .dead, (appO 1 (List.map eS v46))]⟩ (blkQ (X32 n) 0 [0, 2, 3, 4, 7, 8] 7 (seqQ (X32 n) p32_0 (fnQ (X32 n).E.T (resOf Proofs.Tryz.prog 32) (.tuple [e46 o.1, eB o.2])))) := by
        intro kx48
        induction kx48 with
        | zero => intro v45 v46  ox47 h; exact (iter_zero h).elim
        | succ kx48 ihx50 =>
         intro v45 v46  ox47 h nx49 hnx53 hrx51 hxx52
         obtain ⟨nx49, rfl⟩ : ∃ q, nx49 = q + 1 := ⟨nx49 - 1, by omega⟩
         obtain ⟨sx54, h, hsx55⟩ := iter_some h
         have h : f32_B3 m a0 v10 v11 v45 v46 = some sx54 := h
         unfold f32_B3 at h
         refine Lp.succ (Wp.sq (Wp.sq (Wp.rg (Ops.sg 5 5 ?_))))
         refine Ops.hv (fun KQ => ∀ (d58 d59 d60 : D) (v61 v62 : Bool), f32_r2 m a0 v11 v45 v46 v62 = some sx54 → KQ 9 ⟨Zs11 a0 (q1 ((dI v10)::(dI v11)::(dI v12)::(dI v45)::q40 (q10 ((dI v11)::(dI v10)::(dI (w64 (v10 + 2)))::(dB v61)::(dB v61)::d58::d59::d60::(dB v62)::q40 (q3 []))))), [b32_0, (.cells [(.v (.str v13)), (.v (.str v14)), (appD 7 (List.map eS v46)), (dI 0), (dI 0)]), .dead, .dead, .dead, .dead, .dead, (appO 1 (List.map eS v46))]⟩) ?_ fun J32j63 => ?_
         ·intro d58 d59 d60 v61 v62 h
          unfold f32_r2 at h
          refine Ops.dn (seqQ.n ?_)
          refine Wp.cd h k32_0 8 (fun h => ?_) (fun h => ?_)
          ·refine Wp.sk (sqQ.n ⟨Zs11 a0 (q1 ((dI v10)::(dI v11)::(dI v12)::(dI v45)::q40 (q40 (q22 [])))), [b32_0, (.cells [(.v (.str v13)), (.v (.str v14)), (appD 8 (List.map eS v46)), (dI 0), (dI 0)]), .dead, .dead, .dead, .dead, .dead, .dead, (appO 1 (List.map eS v46))]⟩ (by generalize v46 = z0; cases z0 <;> kernel_rfl) (seqQ.n (Wp.bk 1 k32_0 9 (Wp.sq (Wp.rg (Ops.sg 2 2 ?_))))))
           obtain ⟨v64, ev64, h⟩ := bnd_some h
           refine Ops.on 3 (fun h0 e0 => (str_sub (T := T) h0 9 a0 v64 none (some v11) ev64 (by kernel_rfl))) ?_
           refine Ops.sg 1 4 ?_
           obtain ⟨v65, ev65, h⟩ := bnd_some h
           refine Ops.on 5 (fun h0 e0 => (call_ok (E' := E) (h := h0) (by kernel_rfl) (Args.v (.str v64) (eS v64) (by kernel_rfl) (Args.v (vI v45) (eI v45) (by kernel_rfl) (Args.v (.str (⟨#[44]⟩ : ByteArray)) (eS (⟨#[44]⟩ : ByteArray)) (by kernel_rfl) Args.nil))) (ok31 m v64 v45 (⟨#[44]⟩ : ByteArray) v65 ev65 n (by omega)))) ?_
           refine Ops.sg 1 6 (Ops.dn (seqQ.n (Wp.sq (Wp.sq (Wp.rg (Ops.sg 2 2 (Ops.dn (seqQ.n ?_))))))))
           have J32j67 : ∀ (v66 : Int) , f32_j1 m a0 v45 v46 v66 = some sx54 → (seqQ (X32 n) p32_2 (blkQ (X32 n) 1 k32_0 9 (lpQ (X32 n) k32_0 7 p32_1 nx49 (blkQ (X32 n) 0 [0, 2, 3, 4, 7, 8] 7 (seqQ (X32 n) p32_0 (fnQ (X32 n).E.T (resOf Proofs.Tryz.prog 32) (.tuple [e46 o.1, eB o.2]))))))) .normal ⟨Zs11 a0 (q1 ((dI v10)::(dI v11)::(dI v12)::(dI v45)::(dI v66)::q40 (q40 (q21 [])))), [b32_0, (.cells [(.v (.str v13)), (.v (.str v14)), (appD 9 (List.map eS v46)), (dI 0), (dI 0)]), .dead, .dead, .dead, .dead, .dead, .dead, .dead, (appO 1 (List.map eS v46))]⟩ := by
            intro v66  h
            unfold f32_j1 at h
            refine seqQ.n (Wp.sq (Wp.rg (Ops.sg 5 5 ?_)))
            obtain ⟨v68, ev68, h⟩ := bnd_some h
            refine Ops.on 6 (fun h0 e0 => (str_sub (T := T) h0 9 a0 v68 (some v45) (some v66) ev68 (by kernel_rfl))) ?_
            refine Ops.sg 1 7 ?_
            obtain ⟨v69, ev69, h⟩ := bnd_some h
            refine Ops.on 8 (fun h0 e0 => (app_r (T := T) (g := .nil) h0 29 9 9 1 ti9 .nonfull eS v46 [v68] v69 ev69 (by kernel_rfl) (by kernel_rfl) (by kernel_rfl) (by kernel_rfl) (fun _ => rfl) (hq_of e0 (by kernel_rfl)))) ?_
            refine Ops.sg 1 9 ?_
            refine Ops.on 10 (fun h0 e0 => (st_l (i := ti29) (h := h0) (r := 1) (off := 2) (cs := [(.v (.str v13)), (.v (.str v14)), (appD 9 (List.map eS v46)), (dI 0), (dI 0)]) (cs' := [(.v (.str v13)), (.v (.str v14)), (appD 10 (List.map eS v69)), (dI 0), (dI 0)]) (x := (appD 10 (List.map eS v69))) (hq_of (g := [b32_0, (.cells [(.v (.str v13)), (.v (.str v14)), (appD 9 (List.map eS v46)), (dI 0), (dI 0)]), .dead, .dead, .dead, .dead, .dead, .dead, .dead, .dead, (appO 1 (List.map eS v69))]) (e0.trans (by kernel_rfl)) rfl) (by kernel_rfl) (appF_one _ _ _) (by rfl))) ?_
            refine Ops.dn (seqQ.n (Wp.rg (Ops.sg 3 3 (Ops.dn (blkQ.n ⟨Zs11 a0 (q1 ((dI v10)::(dI v11)::(dI v12)::(dI (w64 (v66 + 1)))::q40 (q40 (q22 [])))), [b32_0, (.cells [(.v (.str v13)), (.v (.str v14)), (appD 9 (List.map eS v69)), (dI 0), (dI 0)]), .dead, .dead, .dead, .dead, .dead, .dead, .dead, (appO 1 (List.map eS v69))]⟩ (by generalize v69 = z0; cases z0 <;> kernel_rfl) (lpQ.n ⟨Zs11 a0 (q1 ((dI v10)::(dI v11)::(dI v12)::(dI (w64 (v66 + 1)))::q40 (q40 (q22 [])))), [b32_0, (.cells [(.v (.str v13)), (.v (.str v14)), (appD 7 (List.map eS v69)), (dI 0), (dI 0)]), .dead, .dead, .dead, .dead, .dead, (appO 1 (List.map eS v69))]⟩ (by generalize v69 = z0; cases z0 <;> kernel_rfl) ?_))))))
            cases h
            exact ihx50 (w64 (v66 + 1)) v69  _ hsx55 _ (by omega) hrx51 hxx52
           refine Wp.cd h [0, 2, 3, 4, 6, 7, 8, 9, 10] 9 (fun h => ?_) (fun h => ?_)
           ·refine Wp.rg (Ops.sg 2 2 (Ops.dn (sqQ.n ⟨Zs11 a0 (q1 ((dI v10)::(dI v11)::(dI v12)::(dI v45)::(dI v11)::q40 (q40 (q21 [])))), [b32_0, (.cells [(.v (.str v13)), (.v (.str v14)), (appD 9 (List.map eS v46)), (dI 0), (dI 0)]), .dead, .dead, .dead, .dead, .dead, .dead, .dead, (appO 1 (List.map eS v46))]⟩ (by generalize v46 = z0; cases z0 <;> kernel_rfl) ?_)))
            exact J32j67 v11  h
           ·refine Wp.sk (sqQ.n ⟨Zs11 a0 (q1 ((dI v10)::(dI v11)::(dI v12)::(dI v45)::(dI v65)::q40 (q40 (q21 [])))), [b32_0, (.cells [(.v (.str v13)), (.v (.str v14)), (appD 9 (List.map eS v46)), (dI 0), (dI 0)]), .dead, .dead, .dead, .dead, .dead, .dead, .dead, (appO 1 (List.map eS v46))]⟩ (by generalize v46 = z0; cases z0 <;> kernel_rfl) ?_)
            exact J32j67 v65  h
          ·refine Wp.ex 0 (sqQ.x (seqQ.x ?_))
           cases h
           refine lpQ.x (blkQ.x ⟨Zs11 a0 (q2 ((dI v11)::(dI v12)::q40 (q40 (q23 [])))), [b32_0, (.cells [(.v (.str v13)), (.v (.str v14)), (appD 7 (List.map eS v46)), (dI 0), (dI 0)]), .dead, .dead, .dead, .dead, .dead, (appO 1 (List.map eS v46))]⟩ (by generalize v46 = z0; cases z0 <;> kernel_rfl) ?_)
           exact hxx52 (v45, v46)  hsx55
         refine Ops.hv (fun KQ => ∀ v56 : Bool, f32_r2 m a0 v11 v45 v46 (v56 && (decide (v45 ≤ v11))) = some sx54 → KQ 5 ⟨Zs11 a0 (q1 ((dI v10)::(dI v11)::(dI v12)::(dI v45)::q40 (q10 ((dI v11)::(dI v10)::(dI (w64 (v10 + 2)))::(dB v56)::(dB v56)::q40 (q7 []))))), [b32_0, (.cells [(.v (.str v13)), (.v (.str v14)), (appD 7 (List.map eS v46)), (dI 0), (dI 0)]), .dead, .dead, .dead, .dead, .dead, (appO 1 (List.map eS v46))]⟩) ?_ fun G32g57 => Ops.sx (G32g57 (decide (v11 > w64 (v10 + 2))) h)
         intro v56 h
         cases v56
         ·refine Ops.sg 4 9 ?_
          exact Ops.sx (J32j63 U U U false false h)
         ·refine Ops.sg 4 9 ?_
          exact Ops.sx (J32j63 (dI v45) (dI v11) (dB (decide (v45 ≤ v11))) true (decide (v45 ≤ v11)) h)
       refine Wp.loop' k32_0 7 (by kernel_rfl) ⟨Zs11 a0 (q1 ((dI v10)::(dI v11)::(dI v12)::(dI (w64 (v10 + 2)))::q40 (q40 (q22 [])))), [b32_0, (.cells [(.v (.str v13)), (.v (.str v14)), (appD 7 (List.map eS [])), (dI 0), (dI 0)]), .dead, .dead, .dead, .dead, .dead, .dead]⟩ (by kernel_rfl) ?_
       rcases brk_some h with ⟨r72, er72, h⟩ | ⟨y71, ey71, h⟩
       ·refine hLx70 _ (w64 (v10 + 2)) []  _ er72 n (by omega) (fun r er σ hσ => ?_) (fun y  ey => by cases ey)
        cases er
        refine seqQ.r ?_
        exact fnQ.r' (X32 n) (fun z => (.tuple [e46 z.1, eB z.2])) h hσ
       ·refine hLx70 _ (w64 (v10 + 2)) []  _ ey71 n (by omega) (fun r er => by cases er) (fun y  ey => ?_)
        cases ey
        refine seqQ.n (Wp.sq (Wp.rg (Ops.sg 2 2 (Ops.dn (seqQ.n (Wp.sq (Wp.rg (Ops.sg 4 4 ?_))))))))
        obtain ⟨v73, ev73, h⟩ := bnd_some h
        refine Ops.on 5 (fun h0 e0 => (str_sub (T := T) h0 9 a0 v73 (some (w64 (v11 + 2))) (some v12) ev73 (by kernel_rfl))) ?_
        obtain ⟨v74, ev74, h⟩ := bnd_some h
        refine Ops.on 6 (fun h0 e0 => (call_ok (E' := E) (h := h0) (by kernel_rfl) (Args.v (.str v73) (eS v73) (by kernel_rfl) Args.nil) (ok46 m v73 v74 ev74 n (by omega)))) ?_
        refine Ops.sg 6 12 (Ops.dn (seqQ.n (Wp.sq (Wp.rg (Ops.sg 3 3 ?_)))))
        obtain ⟨v75, ev75, h⟩ := bnd_some h
        refine Ops.on 4 (fun h0 e0 => (str_sub (T := T) h0 9 a0 v75 (some (w64 (v12 + 1))) none ev75 (by kernel_rfl))) ?_
        obtain ⟨v76, ev76, h⟩ := bnd_some h
        refine Ops.on 5 (fun h0 e0 => (call_ok (E' := E) (h := h0) (by kernel_rfl) (Args.v (.str v75) (eS v75) (by kernel_rfl) Args.nil) (ok46 m v75 v76 ev76 n (by omega)))) ?_
        refine Ops.sg 6 11 (Ops.dn (seqQ.n (Wp.sq (Wp.rg (Ops.sg 3 3 ?_)))))
        refine Ops.hv (fun KQ => ∀ (d79 : D) (v80 v81 : Bool), f32_r4 m v13 v14 y71 v74 v76 v81 = some o → KQ 5 ⟨Zs11 a0 (q2 ((dI v11)::(dI v12)::q2 ((dB v80)::(dB v76.2)::q40 (q35 ((.v (.tuple [(vI v74.1), (vB v74.2)]))::(.v (.str a0))::(dI v11)::(dI (w64 (v11 + 2)))::(dI v12)::(.v (.str v73))::(.v (.tuple [(vI v74.1), (vB v74.2)]))::(dI v74.1)::(dB v80)::(.ptr 1 3)::(.v (.tuple [(vI v76.1), (vB v76.2)]))::(.v (.str a0))::(dI v12)::(dI (w64 (v12 + 1)))::(.v (.str v75))::(.v (.tuple [(vI v76.1), (vB v76.2)]))::(dI v76.1)::(dB v76.2)::(.ptr 1 4)::(mkAgg [(.v (.str v13)), (.v (.str v14)), (appD 7 (List.map eS y71.2)), (dI v74.1), (dI v76.1)])::(dB v80)::(dB v80)::d79::(dB v81)::[]))))), [b32_0, (.cells [(.v (.str v13)), (.v (.str v14)), (appD 7 (List.map eS y71.2)), (dI v74.1), (dI v76.1)]), .dead, .dead, .dead, .dead, .dead, (appO 1 (List.map eS y71.2))]⟩) ?_ fun J32j82 => ?_
        ·intro d79 v80 v81 h
         unfold f32_r4 at h
         refine Ops.on 6 (fun h0 e0 => (st_s (i := ti47) (h := h0) (r := 0) (off := 0) (cs := [(.v (.str ByteArray.empty)), (.v (.str ByteArray.empty)), (.v (.sl .nil (List.map eS []))), (dI 0), (dI 0)]) (cs' := [(.v (.str v13)), (.v (.str v14)), (appD 7 (List.map eS y71.2)), (dI v74.1), (dI v76.1)]) (ds := [(.v (.str v13)), (.v (.str v14)), (appD 7 (List.map eS y71.2)), (dI v74.1), (dI v76.1)]) (hq_of (g := [b32_0, (.cells [(.v (.str v13)), (.v (.str v14)), (appD 7 (List.map eS y71.2)), (dI v74.1), (dI v76.1)]), .dead, .dead, .dead, .dead, .dead, (appO 1 (List.map eS y71.2))]) (e0.trans (by kernel_rfl)) rfl) (by kernel_rfl) (all_sc rfl (all_sc rfl (all_sc (appF_sc _ _ _) (all_sc rfl (all_sc rfl rfl))))) (by rfl))) ?_
         refine Ops.sg 1 7 (Ops.dn (seqQ.n (Wp.rt ?_)))
         exact fnQ.r' (X32 n) (fun z => (.tuple [e46 z.1, eB z.2])) h (RetOk.tup [(mkAgg [(.v (.str v13)), (.v (.str v14)), (appD 7 (List.map eS y71.2)), (dI v74.1), (dI v76.1)]), (dB v81)] (by kernel_rfl) (.d (mkAgg [(.v (.str v13)), (.v (.str v14)), (appD 7 (List.map eS y71.2)), (dI v74.1), (dI v76.1)]) _ (mkAgg_frz (.cons (.v (.str v13)) _ (by kernel_rfl) (by kernel_rfl) (.cons (.v (.str v14)) _ (by kernel_rfl) (by kernel_rfl) (.cons (appD 7 (List.map eS y71.2)) _ (appD_frz _ _ _ _) (appF_na _ _ _) (.cons (dI v74.1) _ (by kernel_rfl) (by kernel_rfl) (.cons (dI v76.1) _ (by kernel_rfl) (by kernel_rfl) .nil)))))) (mkAgg_nt _) (.v (vB v81) _ (by kernel_rfl) (by kernel_rfl) .nil)))
        refine Ops.hv (fun KQ => ∀ v77 : Bool, f32_r4 m v13 v14 y71 v74 v76 (v77 && v76.2) = some o → KQ 3 ⟨Zs11 a0 (q2 ((dI v11)::(dI v12)::q2 ((dB v77)::(dB v76.2)::q40 (q35 ((.v (.tuple [(vI v74.1), (vB v74.2)]))::(.v (.str a0))::(dI v11)::(dI (w64 (v11 + 2)))::(dI v12)::(.v (.str v73))::(.v (.tuple [(vI v74.1), (vB v74.2)]))::(dI v74.1)::(dB v77)::(.ptr 1 3)::(.v (.tuple [(vI v76.1), (vB v76.2)]))::(.v (.str a0))::(dI v12)::(dI (w64 (v12 + 1)))::(.v (.str v75))::(.v (.tuple [(vI v76.1), (vB v76.2)]))::(dI v76.1)::(dB v76.2)::(.ptr 1 4)::(mkAgg [(.v (.str v13)), (.v (.str v14)), (appD 7 (List.map eS y71.2)), (dI v74.1), (dI v76.1)])::(dB v77)::(dB v77)::q2 []))))), [b32_0, (.cells [(.v (.str v13)), (.v (.str v14)), (appD 7 (List.map eS y71.2)), (dI v74.1), (dI v76.1)]), .dead, .dead, .dead, .dead, .dead, (appO 1 (List.map eS y71.2))]⟩) ?_ fun G32g78 => Ops.sx (G32g78 v74.2 h)
        intro v77 h
        cases v77
        ·refine Ops.sg 2 5 ?_
         exact Ops.sx (J32j82 U false false h)
        ·refine Ops.sg 2 5 ?_
         exact Ops.sx (J32j82 (dB v76.2) true v76.2 h)
 obtain ⟨v7, ev7, h⟩ := bnd_some h
 refine Ops.hv (fun KQ => ∀ v1 : Bool, (cnd v1 (some true) (bnd (ssub a0 0 6) fun v83 => some (!(v83.toList == ((⟨#[105, 116, 101, 109, 32, 40]⟩ : ByteArray)).toList)))) = some v7 → KQ 4 ⟨(.v (.str a0))::u1 ((.ptr 0 0)::(dB false)::(.ptr 1 0)::u8 ((.v (.str a0))::(dI (a0.size : Int))::(dB v1)::(dB v1)::u40 (u40 (u15 [])))), [b32_0, b32_0]⟩) ?_ fun G32g2 => Ops.sx (G32g2 (decide ((a0.size : Int) < 6)) ev7)
 intro v1 ev7
 cases v1
 ·have ev7 := cnd_f ev7
  refine Ops.sg 1 5 ?_
  obtain ⟨v83, ev83, ev7⟩ := bnd_some ev7
  refine Ops.on 6 (fun h0 e0 => (str_sub (T := T) h0 9 a0 v83 none (some 6) ev83 (by kernel_rfl))) ?_
  refine Ops.sg 2 8 ?_
  exact Ops.sx (J32j8 (.v (.str a0)) (.v (.str v83)) ((dB (!(v83.toList == ((⟨#[105, 116, 101, 109, 32, 40]⟩ : ByteArray)).toList)))) false (!(v83.toList == ((⟨#[105, 116, 101, 109, 32, 40]⟩ : ByteArray)).toList)) (some_sub (fun v7 => f32_r5 m a0 v7 = some o) ev7 h))
 ·have ev7 := cnd_t ev7
  refine Ops.sg 4 8 ?_
  exact Ops.sx (J32j8 U U U true true (some_sub (fun v7 => f32_r5 m a0 v7 = some o) ev7 h))
end Go.Abs
