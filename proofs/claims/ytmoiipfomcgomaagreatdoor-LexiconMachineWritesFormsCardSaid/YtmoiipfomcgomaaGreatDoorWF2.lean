import Derived.Test.YtmoiipfomcgomaaGreatDoorHE
namespace Go.Abs
set_option linter.unusedVariables false
set_option maxRecDepth 100000
set_option maxHeartbeats 4000000
abbrev mX (a b : List Int) : Int := (if 1 > (if (b.length : Int) > (a.length : Int) then (b.length : Int) else (a.length : Int)) then 1 else (if (b.length : Int) > (a.length : Int) then (b.length : Int) else (a.length : Int)))
def f12 (m : Nat)  : Option S23 :=
 some ((⟨[(⟨(⟨#[114, 111, 111, 116]⟩ : ByteArray), [(⟨(⟨#[100, 111, 103]⟩ : ByteArray), (⟨#[100, 111, 103]⟩ : ByteArray), [(⟨#[110]⟩ : ByteArray)], 1, 0⟩ : S57)]⟩ : S55), (⟨(⟨#[110, 117, 109, 98, 101, 114]⟩ : ByteArray), [(⟨ByteArray.empty, ByteArray.empty, [(⟨#[115, 103]⟩ : ByteArray)], (-1), 0⟩ : S57), (⟨ByteArray.empty, (⟨#[115]⟩ : ByteArray), [(⟨#[112, 108]⟩ : ByteArray)], (-1), 2⟩ : S57)]⟩ : S55)]⟩ : S23))
noncomputable abbrev X12 (n : Nat) : Cx := cxOf Proofs.Tryz.prog EG 12 n
theorem ok12 (m : Nat)  (o : S23) (h : f12 m  = some o) (n : Nat) (hn : m + 1 ≤ n) : Fn Proofs.Tryz.prog EG n 12 [] (e23 o) := by
 obtain ⟨n, rfl⟩ : ∃ q, n = q + 1 := ⟨n - 1, by omega⟩
 unfold f12 at h
 refine Fn.of (by kernel_rfl) (by kernel_rfl) (by kernel_rfl) ⟨u13 [], []⟩ (by kernel_rfl) (Wp.sq (Wp.rg (Ops.sg 1 1 (Ops.dn (seqQ.n (Wp.sq (Wp.rg (Ops.sg 13 13 (Ops.dn (seqQ.n (Wp.rt ?_)))))))))))
 exact fnQ.r' (X12 n) (fun z => (e23 z)) h (RetOk.mk' (.v (.agg [(.sl .nonfull (List.map e55 ([(⟨(⟨#[114, 111, 111, 116]⟩ : ByteArray), [(⟨(⟨#[100, 111, 103]⟩ : ByteArray), (⟨#[100, 111, 103]⟩ : ByteArray), [(⟨#[110]⟩ : ByteArray)], 1, 0⟩ : S57)]⟩ : S55), (⟨(⟨#[110, 117, 109, 98, 101, 114]⟩ : ByteArray), [(⟨ByteArray.empty, ByteArray.empty, [(⟨#[115, 103]⟩ : ByteArray)], (-1), 0⟩ : S57), (⟨ByteArray.empty, (⟨#[115]⟩ : ByteArray), [(⟨#[112, 108]⟩ : ByteArray)], (-1), 2⟩ : S57)]⟩ : S55)])))])) (by kernel_rfl) (by kernel_rfl))
def f33_B1 (m : Nat) (a0 a1 : (List ByteArray)) (v6 : Int) : Option (Stp Bool (Int)) :=
 cnd (decide (v6 < (a0.length : Int)))
 (bnd (idx a0 v6) fun v16 =>
 bnd (idx a1 v6) fun v17 =>
 cnd (!(v16.toList == v17.toList))
 (some (.ret false))
 (some (.nxt (w64 (v6 + 1)))))
 (some (.brk v6))
def f33 (m : Nat) (a0 a1 : (List ByteArray)) : Option Bool :=
 cnd ((a0.length : Int) != (a1.length : Int))
 (some false)
 (brk (iter (fun (y : Int) => f33_B1 m a0 a1 y) m 0) some fun y19 =>
 some true)
noncomputable abbrev X33 (n : Nat) : Cx := cxOf Proofs.Tryz.prog EG 33 n
noncomputable def C33 : Code := bodyOf Proofs.Tryz.prog 33
theorem ok33 (m : Nat) (a0 a1 : (List ByteArray)) (o : Bool) (h : f33 m a0 a1 = some o) (n : Nat) (hn : m + 1 ≤ n) : Fn Proofs.Tryz.prog EG n 33 [.v ((eL eS) a0), .v ((eL eS) a1)] (eB o) := by
 obtain ⟨n, rfl⟩ : ∃ q, n = q + 1 := ⟨n - 1, by omega⟩
 unfold f33 at h
 refine Fn.of (by kernel_rfl) (by kernel_rfl) (by kernel_rfl) ⟨(dP eS a0)::(dP eS a1)::u24 [], []⟩ (by kernel_rfl) (Wp.sq (Wp.rg (Ops.sg 1 1 (Ops.dn (seqQ.n (Wp.sq (Wp.sq (Wp.rg (Ops.sg 1 1 ?_)))))))))
 refine Ops.on 2 (fun h0 e0 => (len_r (T := T) h0 39 9 .plain eS a0 (by kernel_rfl))) ?_
 refine Ops.sg 1 3 ?_
 refine Ops.on 4 (fun h0 e0 => (len_r (T := T) h0 39 9 .plain eS a1 (by kernel_rfl))) ?_
 refine Ops.sg 1 5 (Ops.dn (seqQ.n ?_))
 refine Wp.cd h [0, 1, 4] 0 (fun h => ?_) (fun h => ?_)
 ·refine Wp.sq (Wp.rg (Ops.sg 1 1 (Ops.dn (seqQ.n (Wp.rt (sqQ.r (seqQ.r ?_)))))))
  exact fnQ.r' (X33 n) (fun z => (eB z)) h (RetOk.mk' (dB false) (by kernel_rfl) (by kernel_rfl))
 ·refine Wp.sk (sqQ.n' (seqQ.n (Wp.sq (Wp.sq (Wp.rg (Ops.sg 1 1 ?_))))))
  refine Ops.on 2 (fun h0 e0 => (len_r (T := T) h0 39 9 .plain eS a0 (by kernel_rfl))) ?_
  refine Ops.sg 1 3 (Ops.dn (seqQ.n (Wp.bk 0 [4] 0 ?_)))
  have hLx18 : ∀ (kx8 : Nat) (v6 : Int)  (ox7 : Bool ⊕ (Int)), iter (fun (y : Int) => f33_B1 m a0 a1 y) kx8 v6 = some ox7 → ∀ nx9, kx8 ≤ nx9 → (∀ r, ox7 = .inl r → ∀ σ, RetOk (X33 n) (resOf Proofs.Tryz.prog 33) (eB r) σ → (seqQ (X33 n) (cR (cR (cR C33))) (fnQ (X33 n).E.T (resOf Proofs.Tryz.prog 33) (eB o))) .ret σ) → (∀ (y : Int) , ox7 = .inr y → (seqQ (X33 n) (cR (cR (cR C33))) (fnQ (X33 n).E.T (resOf Proofs.Tryz.prog 33) (eB o))) .normal ⟨Zs30 a0 a1 (a0.length : Int) ((dI y)::q12 []), []⟩) → Lp (X33 n) [0, 1, 4, 12, 13] 0 (cL (cL (cR (cL (cR (cR C33)))))) nx9 ⟨Zs30 a0 a1 (a0.length : Int) ((dI v6)::q12 []), []⟩ (blkQ (X33 n) 0 [4] 0 (seqQ (X33 n) (cR (cR (cR C33))) (fnQ (X33 n).E.T (resOf Proofs.Tryz.prog 33) (eB o)))) := by
   intro kx8
   induction kx8 with
   | zero => intro v6  ox7 h; exact (iter_zero h).elim
   | succ kx8 ihx10 =>
    intro v6  ox7 h nx9 hnx13 hrx11 hxx12
    obtain ⟨nx9, rfl⟩ : ∃ q, nx9 = q + 1 := ⟨nx9 - 1, by omega⟩
    obtain ⟨sx14, h, hsx15⟩ := iter_some h
    have h : f33_B1 m a0 a1 v6 = some sx14 := h
    unfold f33_B1 at h
    refine Lp.succ (Wp.sq (Wp.rg (Ops.sg 1 1 (Ops.dn (seqQ.n (Wp.sq ?_))))))
    refine Wp.cd h [0, 1, 4, 12, 13] 0 (fun h => ?_) (fun h => ?_)
    ·refine Wp.sk (sqQ.n' (seqQ.n (Wp.sq (Wp.bk 1 [0, 1, 4, 12, 13] 0 (Wp.sq (Wp.rg (Ops.sg 2 2 (Ops.dn (seqQ.n (Wp.sq (Wp.rg (Ops.sg 2 2 ?_))))))))))))
     obtain ⟨v16, ev16, h⟩ := bnd_some h
     refine Ops.on 3 (fun h0 e0 => (ix_r (T := T) h0 39 9 1 .plain eS a0 v6 v16 ev16 (by kernel_rfl) (by kernel_rfl) (fun _ => rfl))) ?_
     refine Ops.sg 3 6 ?_
     obtain ⟨v17, ev17, h⟩ := bnd_some h
     refine Ops.on 7 (fun h0 e0 => (ix_r (T := T) h0 39 9 1 .plain eS a1 v6 v17 ev17 (by kernel_rfl) (by kernel_rfl) (fun _ => rfl))) ?_
     refine Ops.sg 2 9 (Ops.dn (seqQ.n ?_))
     refine Wp.cd h [0, 1, 4, 12, 13] 0 (fun h => ?_) (fun h => ?_)
     ·refine Wp.sq (Wp.rg (Ops.sg 1 1 (Ops.dn (seqQ.n (Wp.rt (sqQ.r (blkQ.r (seqQ.r ?_))))))))
      cases h
      refine lpQ.r (blkQ.r ?_)
      exact hrx11 _ hsx15 _ (RetOk.forget [0, 1, 4, 12, 13] (by kernel_rfl) (RetOk.mk' (dB false) (by kernel_rfl) (by kernel_rfl)))
     ·refine Wp.sk (sqQ.n' (blkQ.n' (seqQ.n (Wp.rg (Ops.sg 2 2 (Ops.dn (lpQ.m ⟨Zs30 a0 a1 (a0.length : Int) ((dI (w64 (v6 + 1)))::q12 []), []⟩ ?_)))))))
      cases h
      exact ihx10 (w64 (v6 + 1))  _ hsx15 _ (by omega) hrx11 hxx12
    ·refine Wp.ex 0 (sqQ.x (seqQ.x ?_))
     cases h
     refine lpQ.x (blkQ.w ⟨Zs30 a0 a1 (a0.length : Int) ((dI v6)::q12 []), []⟩ ?_)
     exact hxx12 v6  hsx15
  refine Wp.loop' [0, 1, 4, 12, 13] 0 (by kernel_rfl) ⟨Zs30 a0 a1 (a0.length : Int) ((dI 0)::q12 []), []⟩ (by kernel_rfl) ?_
  rcases brk_some h with ⟨r20, er20, h⟩ | ⟨y19, ey19, h⟩
  ·refine hLx18 _ 0  _ er20 n (by omega) (fun r er σ hσ => ?_) (fun y  ey => by cases ey)
   cases er
   refine seqQ.r ?_
   exact fnQ.r' (X33 n) (fun z => (eB z)) h hσ
  ·refine hLx18 _ 0  _ ey19 n (by omega) (fun r er => by cases er) (fun y  ey => ?_)
   cases ey
   refine seqQ.n (Wp.sq (Wp.rg (Ops.sg 1 1 (Ops.dn (seqQ.n (Wp.rt ?_))))))
   exact fnQ.r' (X33 n) (fun z => (eB z)) h (RetOk.mk' (dB true) (by kernel_rfl) (by kernel_rfl))
def f13_r1 (m : Nat) (v118 : Int) (v177 : Bool) : Option (Stp Bool (Int)) :=
 cnd v177
 (some (.ret false))
 (some (.nxt (w64 (v118 + 1))))
def f13_r2 (m : Nat) (a0 a1 : (List S40)) (v118 : Int) (v160 : Bool) : Option (Stp Bool (Int)) :=
 bnd (cnd v160
 (some true)
 (bnd (idx a0 v118) fun v179 =>
 bnd (idx a1 v118) fun v180 =>
 bnd (f33 m v179.fTags v180.fTags) fun v181 =>
 some (!v181))) fun v177 =>
 f13_r1 m v118 v177
def f13_r3 (m : Nat) (a0 a1 : (List S40)) (v118 : Int) (v144 : Bool) : Option (Stp Bool (Int)) :=
 bnd (cnd v144
 (some true)
 (bnd (idx a0 v118) fun v182 =>
 bnd (idx a1 v118) fun v183 =>
 some (v182.fWeight != v183.fWeight))) fun v160 =>
 f13_r2 m a0 a1 v118 v160
def f13_B4 (m : Nat) (a0 a1 : (List S40)) (v118 : Int) : Option (Stp Bool (Int)) :=
 cnd (decide (v118 < (a0.length : Int)))
 (bnd (idx a0 v118) fun v128 =>
 bnd (idx a1 v118) fun v129 =>
 bnd (cnd (!(v128.fBase.toList == v129.fBase.toList))
 (some true)
 (bnd (idx a0 v118) fun v184 =>
 bnd (idx a1 v118) fun v185 =>
 some (!(v184.fForm.toList == v185.fForm.toList)))) fun v144 =>
 f13_r3 m a0 a1 v118 v144)
 (some (.brk v118))
def f13 (m : Nat) (a0 a1 : (List S40)) : Option Bool :=
 cnd ((a0.length : Int) != (a1.length : Int))
 (some false)
 (brk (iter (fun (y : Int) => f13_B4 m a0 a1 y) m 0) some fun y187 =>
 some true)
noncomputable abbrev X13 (n : Nat) : Cx := cxOf Proofs.Tryz.prog EG 13 n
noncomputable def C13 : Code := bodyOf Proofs.Tryz.prog 13
theorem ok13 (m : Nat) (a0 a1 : (List S40)) (o : Bool) (h : f13 m a0 a1 = some o) (n : Nat) (hn : m + 2 ≤ n) : Fn Proofs.Tryz.prog EG n 13 [.v ((eL e40) a0), .v ((eL e40) a1)] (eB o) := by
 obtain ⟨n, rfl⟩ : ∃ q, n = q + 1 := ⟨n - 1, by omega⟩
 unfold f13 at h
 refine Fn.of (by kernel_rfl) (by kernel_rfl) (by kernel_rfl) ⟨(dP e40 a0)::(dP e40 a1)::u40 (u26 []), []⟩ (by kernel_rfl) (Wp.sq (Wp.rg (Ops.sg 1 1 (Ops.dn (seqQ.n (Wp.sq (Wp.sq (Wp.rg (Ops.sg 1 1 ?_)))))))))
 refine Ops.on 2 (fun h0 e0 => (len_r (T := T) h0 36 41 .plain e40 a0 (by kernel_rfl))) ?_
 refine Ops.sg 1 3 ?_
 refine Ops.on 4 (fun h0 e0 => (len_r (T := T) h0 36 41 .plain e40 a1 (by kernel_rfl))) ?_
 refine Ops.sg 1 5 (Ops.dn (seqQ.n ?_))
 refine Wp.cd h [0, 1, 4] 0 (fun h => ?_) (fun h => ?_)
 ·refine Wp.sq (Wp.rg (Ops.sg 1 1 (Ops.dn (seqQ.n (Wp.rt (sqQ.r (seqQ.r ?_)))))))
  exact fnQ.r' (X13 n) (fun z => (eB z)) h (RetOk.mk' (dB false) (by kernel_rfl) (by kernel_rfl))
 ·refine Wp.sk (sqQ.n' (seqQ.n (Wp.sq (Wp.sq (Wp.rg (Ops.sg 1 1 ?_))))))
  refine Ops.on 2 (fun h0 e0 => (len_r (T := T) h0 36 41 .plain e40 a0 (by kernel_rfl))) ?_
  refine Ops.sg 1 3 (Ops.dn (seqQ.n (Wp.bk 0 [4] 0 ?_)))
  have hLx186 : ∀ (kx120 : Nat) (v118 : Int)  (ox119 : Bool ⊕ (Int)), iter (fun (y : Int) => f13_B4 m a0 a1 y) kx120 v118 = some ox119 → ∀ nx121, kx120 ≤ nx121 → (∀ r, ox119 = .inl r → ∀ σ, RetOk (X13 n) (resOf Proofs.Tryz.prog 13) (eB r) σ → (seqQ (X13 n) (cR (cR (cR C13))) (fnQ (X13 n).E.T (resOf Proofs.Tryz.prog 13) (eB o))) .ret σ) → (∀ (y : Int) , ox119 = .inr y → (seqQ (X13 n) (cR (cR (cR C13))) (fnQ (X13 n).E.T (resOf Proofs.Tryz.prog 13) (eB o))) .normal ⟨Zs29 a0 a1 (a0.length : Int) y [], []⟩) → Lp (X13 n) [0, 1, 4, 12, 13] 0 (cL (cL (cR (cL (cR (cR C13)))))) nx121 ⟨Zs29 a0 a1 (a0.length : Int) v118 [], []⟩ (blkQ (X13 n) 0 [4] 0 (seqQ (X13 n) (cR (cR (cR C13))) (fnQ (X13 n).E.T (resOf Proofs.Tryz.prog 13) (eB o)))) := by
   intro kx120
   induction kx120 with
   | zero => intro v118  ox119 h; exact (iter_zero h).elim
   | succ kx120 ihx122 =>
    intro v118  ox119 h nx121 hnx125 hrx123 hxx124
    obtain ⟨nx121, rfl⟩ : ∃ q, nx121 = q + 1 := ⟨nx121 - 1, by omega⟩
    obtain ⟨sx126, h, hsx127⟩ := iter_some h
    have h : f13_B4 m a0 a1 v118 = some sx126 := h
    unfold f13_B4 at h
    refine Lp.succ (Wp.sq (Wp.rg (Ops.sg 1 1 (Ops.dn (seqQ.n (Wp.sq ?_))))))
    refine Wp.cd h [0, 1, 4, 12, 13] 0 (fun h => ?_) (fun h => ?_)
    ·refine Wp.sk (sqQ.n' (seqQ.n (Wp.sq (Wp.bk 1 [0, 1, 4, 12, 13] 0 (Wp.sq (Wp.rg (Ops.sg 2 2 (Ops.dn (seqQ.n (Wp.sq (Wp.rg (Ops.sg 2 2 ?_))))))))))))
     obtain ⟨v128, ev128, h⟩ := bnd_some h
     refine Ops.on 3 (fun h0 e0 => (ix_r (T := T) h0 36 41 4 .plain e40 a0 v118 v128 ev128 (by kernel_rfl) (by kernel_rfl) (fun _ => rfl))) ?_
     refine Ops.sg 4 7 ?_
     obtain ⟨v129, ev129, h⟩ := bnd_some h
     refine Ops.on 8 (fun h0 e0 => (ix_r (T := T) h0 36 41 4 .plain e40 a1 v118 v129 ev129 (by kernel_rfl) (by kernel_rfl) (fun _ => rfl))) ?_
     refine Ops.sg 4 12 ?_
     refine Ops.hv (fun KQ => ∀ (d132 d133 d134 d135 d136 d137 d138 d139 d140 d141 d142 : D) (v143 v144 : Bool), f13_r3 m a0 a1 v118 v144 = some sx126 → KQ 24 ⟨Zs2 a0 a1 v118 (a0.length : Int) (decide (v118 < (a0.length : Int))) (.vptr [(.str v128.fBase), (.str v128.fForm), (vP eS v128.fTags), (vI v128.fWeight)]) v128.fBase (.vptr [(.str v129.fBase), (.str v129.fForm), (vP eS v129.fTags), (vI v129.fWeight)]) v129.fBase v143 (d132::d133::d134::d135::d136::d137::d138::d139::d140::d141::d142::(dB v144)::q28 []), []⟩) ?_ fun J13j145 => ?_
     ·intro d132 d133 d134 d135 d136 d137 d138 d139 d140 d141 d142 v143 v144 h
      unfold f13_r3 at h
      refine Ops.sg 1 25 ?_
      refine Ops.hv (fun KQ => ∀ (d148 d149 d150 d151 d152 d153 d154 d155 d156 d157 d158 : D) (v159 v160 : Bool), f13_r2 m a0 a1 v118 v160 = some sx126 → KQ 37 ⟨Zs2 a0 a1 v118 (a0.length : Int) (decide (v118 < (a0.length : Int))) (.vptr [(.str v128.fBase), (.str v128.fForm), (vP eS v128.fTags), (vI v128.fWeight)]) v128.fBase (.vptr [(.str v129.fBase), (.str v129.fForm), (vP eS v129.fTags), (vI v129.fWeight)]) v129.fBase v143 (d132::d133::d134::d135::d136::d137::d138::d139::d140::d141::d142::(dB v159)::(dB v159)::d148::d149::d150::d151::d152::d153::d154::d155::d156::d157::d158::(dB v160)::q15 []), []⟩) ?_ fun J13j161 => ?_
      ·intro d148 d149 d150 d151 d152 d153 d154 d155 d156 d157 d158 v159 v160 h
       unfold f13_r2 at h
       refine Ops.sg 1 38 ?_
       refine Ops.hv (fun KQ => ∀ (d164 d165 d166 d167 d168 d169 d170 d171 d172 d173 d174 d175 : D) (v176 v177 : Bool), f13_r1 m v118 v177 = some sx126 → KQ 51 ⟨Zs2 a0 a1 v118 (a0.length : Int) (decide (v118 < (a0.length : Int))) (.vptr [(.str v128.fBase), (.str v128.fForm), (vP eS v128.fTags), (vI v128.fWeight)]) v128.fBase (.vptr [(.str v129.fBase), (.str v129.fForm), (vP eS v129.fTags), (vI v129.fWeight)]) v129.fBase v143 (d132::d133::d134::d135::d136::d137::d138::d139::d140::d141::d142::(dB v159)::(dB v159)::d148::d149::d150::d151::d152::d153::d154::d155::d156::d157::d158::(dB v176)::(dB v176)::d164::d165::d166::d167::d168::d169::d170::d171::d172::d173::d174::d175::(dB v177)::q1 []), []⟩) ?_ fun J13j178 => ?_
       ·intro d164 d165 d166 d167 d168 d169 d170 d171 d172 d173 d174 d175 v176 v177 h
        unfold f13_r1 at h
        refine Ops.dn (seqQ.n ?_)
        refine Wp.cd h [0, 1, 4, 12, 13] 0 (fun h => ?_) (fun h => ?_)
        ·refine Wp.sq (Wp.rg (Ops.sg 1 1 (Ops.dn (seqQ.n (Wp.rt (sqQ.r (blkQ.r (seqQ.r ?_))))))))
         cases h
         refine lpQ.r (blkQ.r ?_)
         exact hrx123 _ hsx127 _ (RetOk.forget [0, 1, 4, 12, 13] (by kernel_rfl) (RetOk.mk' (dB false) (by kernel_rfl) (by kernel_rfl)))
        ·refine Wp.sk (sqQ.n' (blkQ.n' (seqQ.n (Wp.rg (Ops.sg 2 2 (Ops.dn (lpQ.m ⟨Zs29 a0 a1 (a0.length : Int) (w64 (v118 + 1)) [], []⟩ ?_)))))))
         cases h
         exact ihx122 (w64 (v118 + 1))  _ hsx127 _ (by omega) hrx123 hxx124
       obtain ⟨v177, ev177, h⟩ := bnd_some h
       refine Ops.hv (fun KQ => ∀ v162 : Bool, (cnd v162 (some true) (bnd (idx a0 v118) fun v179 => bnd (idx a1 v118) fun v180 => bnd (f33 m v179.fTags v180.fTags) fun v181 => some (!v181))) = some v177 → KQ 38 ⟨Zs2 a0 a1 v118 (a0.length : Int) (decide (v118 < (a0.length : Int))) (.vptr [(.str v128.fBase), (.str v128.fForm), (vP eS v128.fTags), (vI v128.fWeight)]) v128.fBase (.vptr [(.str v129.fBase), (.str v129.fForm), (vP eS v129.fTags), (vI v129.fWeight)]) v129.fBase v143 (d132::d133::d134::d135::d136::d137::d138::d139::d140::d141::d142::(dB v159)::(dB v159)::d148::d149::d150::d151::d152::d153::d154::d155::d156::d157::d158::(dB v162)::(dB v162)::q14 []), []⟩) ?_ fun G13g163 => Ops.sx (G13g163 v160 ev177)
       intro v162 ev177
       cases v162
       ·have ev177 := cnd_f ev177
        refine Ops.sg 2 40 ?_
        obtain ⟨v179, ev179, ev177⟩ := bnd_some ev177
        refine Ops.on 41 (fun h0 e0 => (ix_r (T := T) h0 36 41 4 .plain e40 a0 v118 v179 ev179 (by kernel_rfl) (by kernel_rfl) (fun _ => rfl))) ?_
        refine Ops.sg 4 45 ?_
        obtain ⟨v180, ev180, ev177⟩ := bnd_some ev177
        refine Ops.on 46 (fun h0 e0 => (ix_r (T := T) h0 36 41 4 .plain e40 a1 v118 v180 ev180 (by kernel_rfl) (by kernel_rfl) (fun _ => rfl))) ?_
        refine Ops.sg 2 48 ?_
        obtain ⟨v181, ev181, ev177⟩ := bnd_some ev177
        refine Ops.on 49 (fun h0 e0 => (call_ok (E' := EG) (h := h0) (by kernel_rfl) (Args.v (vP eS v179.fTags) ((eL eS) v179.fTags) (by kernel_rfl) (Args.v (vP eS v180.fTags) ((eL eS) v180.fTags) (by kernel_rfl) Args.nil)) (ok33 m v179.fTags v180.fTags v181 ev181 n (by omega)))) ?_
        refine Ops.sg 2 51 ?_
        exact Ops.sx (J13j178 (dP e40 a0) (dI v118) ((.vptr [(.str v179.fBase), (.str v179.fForm), (vP eS v179.fTags), (vI v179.fWeight)])) ((.vptr [(vP eS v179.fTags), (vI v179.fWeight)])) (dP eS v179.fTags) (dP e40 a1) (dI v118) ((.vptr [(.str v180.fBase), (.str v180.fForm), (vP eS v180.fTags), (vI v180.fWeight)])) ((.vptr [(vP eS v180.fTags), (vI v180.fWeight)])) (dP eS v180.fTags) (dB v181) (dB (!v181)) false (!v181) (some_sub (fun v177 => f13_r1 m v118 v177 = some sx126) ev177 h))
       ·have ev177 := cnd_t ev177
        refine Ops.sg 13 51 ?_
        exact Ops.sx (J13j178 U U U U U U U U U U U U true true (some_sub (fun v177 => f13_r1 m v118 v177 = some sx126) ev177 h))
      obtain ⟨v160, ev160, h⟩ := bnd_some h
      refine Ops.hv (fun KQ => ∀ v146 : Bool, (cnd v146 (some true) (bnd (idx a0 v118) fun v182 => bnd (idx a1 v118) fun v183 => some (v182.fWeight != v183.fWeight))) = some v160 → KQ 25 ⟨Zs2 a0 a1 v118 (a0.length : Int) (decide (v118 < (a0.length : Int))) (.vptr [(.str v128.fBase), (.str v128.fForm), (vP eS v128.fTags), (vI v128.fWeight)]) v128.fBase (.vptr [(.str v129.fBase), (.str v129.fForm), (vP eS v129.fTags), (vI v129.fWeight)]) v129.fBase v143 (d132::d133::d134::d135::d136::d137::d138::d139::d140::d141::d142::(dB v146)::(dB v146)::q27 []), []⟩) ?_ fun G13g147 => Ops.sx (G13g147 v144 ev160)
      intro v146 ev160
      cases v146
      ·have ev160 := cnd_f ev160
       refine Ops.sg 2 27 ?_
       obtain ⟨v182, ev182, ev160⟩ := bnd_some ev160
       refine Ops.on 28 (fun h0 e0 => (ix_r (T := T) h0 36 41 4 .plain e40 a0 v118 v182 ev182 (by kernel_rfl) (by kernel_rfl) (fun _ => rfl))) ?_
       refine Ops.sg 4 32 ?_
       obtain ⟨v183, ev183, ev160⟩ := bnd_some ev160
       refine Ops.on 33 (fun h0 e0 => (ix_r (T := T) h0 36 41 4 .plain e40 a1 v118 v183 ev183 (by kernel_rfl) (by kernel_rfl) (fun _ => rfl))) ?_
       refine Ops.sg 4 37 ?_
       exact Ops.sx (J13j161 (dP e40 a0) (dI v118) ((.vptr [(.str v182.fBase), (.str v182.fForm), (vP eS v182.fTags), (vI v182.fWeight)])) (.vptr [(vI v182.fWeight)]) (dI v182.fWeight) (dP e40 a1) (dI v118) ((.vptr [(.str v183.fBase), (.str v183.fForm), (vP eS v183.fTags), (vI v183.fWeight)])) (.vptr [(vI v183.fWeight)]) (dI v183.fWeight) (dB (v182.fWeight != v183.fWeight)) false (v182.fWeight != v183.fWeight) (some_sub (fun v160 => f13_r2 m a0 a1 v118 v160 = some sx126) ev160 h))
      ·have ev160 := cnd_t ev160
       refine Ops.sg 12 37 ?_
       exact Ops.sx (J13j161 U U U U U U U U U U U true true (some_sub (fun v160 => f13_r2 m a0 a1 v118 v160 = some sx126) ev160 h))
     obtain ⟨v144, ev144, h⟩ := bnd_some h
     refine Ops.hv (fun KQ => ∀ v130 : Bool, (cnd v130 (some true) (bnd (idx a0 v118) fun v184 => bnd (idx a1 v118) fun v185 => some (!(v184.fForm.toList == v185.fForm.toList)))) = some v144 → KQ 12 ⟨Zs2 a0 a1 v118 (a0.length : Int) (decide (v118 < (a0.length : Int))) (.vptr [(.str v128.fBase), (.str v128.fForm), (vP eS v128.fTags), (vI v128.fWeight)]) v128.fBase (.vptr [(.str v129.fBase), (.str v129.fForm), (vP eS v129.fTags), (vI v129.fWeight)]) v129.fBase v130 (q40 []), []⟩) ?_ fun G13g131 => Ops.sx (G13g131 (!(v128.fBase.toList == v129.fBase.toList)) ev144)
     intro v130 ev144
     cases v130
     ·have ev144 := cnd_f ev144
      refine Ops.sg 2 14 ?_
      obtain ⟨v184, ev184, ev144⟩ := bnd_some ev144
      refine Ops.on 15 (fun h0 e0 => (ix_r (T := T) h0 36 41 4 .plain e40 a0 v118 v184 ev184 (by kernel_rfl) (by kernel_rfl) (fun _ => rfl))) ?_
      refine Ops.sg 4 19 ?_
      obtain ⟨v185, ev185, ev144⟩ := bnd_some ev144
      refine Ops.on 20 (fun h0 e0 => (ix_r (T := T) h0 36 41 4 .plain e40 a1 v118 v185 ev185 (by kernel_rfl) (by kernel_rfl) (fun _ => rfl))) ?_
      refine Ops.sg 4 24 ?_
      exact Ops.sx (J13j145 (dP e40 a0) (dI v118) ((.vptr [(.str v184.fBase), (.str v184.fForm), (vP eS v184.fTags), (vI v184.fWeight)])) ((.vptr [(.str v184.fForm), (vP eS v184.fTags), (vI v184.fWeight)])) (.v (.str v184.fForm)) (dP e40 a1) (dI v118) ((.vptr [(.str v185.fBase), (.str v185.fForm), (vP eS v185.fTags), (vI v185.fWeight)])) ((.vptr [(.str v185.fForm), (vP eS v185.fTags), (vI v185.fWeight)])) (.v (.str v185.fForm)) (dB (!(v184.fForm.toList == v185.fForm.toList))) false (!(v184.fForm.toList == v185.fForm.toList)) (some_sub (fun v144 => f13_r3 m a0 a1 v118 v144 = some sx126) ev144 h))
     ·have ev144 := cnd_t ev144
      refine Ops.sg 12 24 ?_
      exact Ops.sx (J13j145 U U U U U U U U U U U true true (some_sub (fun v144 => f13_r3 m a0 a1 v118 v144 = some sx126) ev144 h))
    ·refine Wp.ex 0 (sqQ.x (seqQ.x ?_))
     cases h
     refine lpQ.x (blkQ.w ⟨Zs29 a0 a1 (a0.length : Int) v118 [], []⟩ ?_)
     exact hxx124 v118  hsx127
  refine Wp.loop' [0, 1, 4, 12, 13] 0 (by kernel_rfl) ⟨(dP e40 a0)::(dP e40 a1)::q2 ((dB false)::q7 ((dI (a0.length : Int))::(dI 0)::q40 (q14 []))), []⟩ (by kernel_rfl) ?_
  rcases brk_some h with ⟨r188, er188, h⟩ | ⟨y187, ey187, h⟩
  ·refine hLx186 _ 0  _ er188 n (by omega) (fun r er σ hσ => ?_) (fun y  ey => by cases ey)
   cases er
   refine seqQ.r ?_
   exact fnQ.r' (X13 n) (fun z => (eB z)) h hσ
  ·refine hLx186 _ 0  _ ey187 n (by omega) (fun r er => by cases er) (fun y  ey => ?_)
   cases ey
   refine seqQ.n (Wp.sq (Wp.rg (Ops.sg 1 1 (Ops.dn (seqQ.n (Wp.rt ?_))))))
   exact fnQ.r' (X13 n) (fun z => (eB z)) h (RetOk.mk' (dB true) (by kernel_rfl) (by kernel_rfl))
def f4_r1 (m : Nat) (v13 : Bool) : Option Bool :=
 some v13
def f4 (m : Nat)  : Option Bool :=
 bnd (f12 m ) fun v1 =>
 bnd (f7 m v1 2) fun v2 =>
 bnd (cnd ((v2.2.fCode == 0) && ((v2.2.fIndex == 0) && true))
 (bnd (f13 m v2.1 ([(⟨(⟨#[100, 111, 103]⟩ : ByteArray), (⟨#[100, 111, 103]⟩ : ByteArray), [(⟨#[110]⟩ : ByteArray), (⟨#[115, 103]⟩ : ByteArray)], 0⟩ : S40), (⟨(⟨#[100, 111, 103]⟩ : ByteArray), (⟨#[100, 111, 103, 115]⟩ : ByteArray), [(⟨#[110]⟩ : ByteArray), (⟨#[112, 108]⟩ : ByteArray)], 2⟩ : S40)])) fun v15 =>
 some v15)
 (some false)) fun v13 =>
 f4_r1 m v13
noncomputable abbrev X4 (n : Nat) : Cx := cxOf Proofs.Tryz.prog EG 4 n
theorem ok4 (m : Nat)  (o : Bool) (h : f4 m  = some o) (n : Nat) (hn : m + 3 ≤ n) : Fn Proofs.Tryz.prog EG n 4 [] (eB o) := by
 obtain ⟨n, rfl⟩ : ∃ q, n = q + 1 := ⟨n - 1, by omega⟩
 unfold f4 at h
 refine Fn.of (by kernel_rfl) (by kernel_rfl) (by kernel_rfl) ⟨u20 [], []⟩ (by kernel_rfl) (Wp.sq (Wp.rg (Ops.sg 1 1 (Ops.dn (seqQ.n (Wp.sq (Wp.rg ?_)))))))
 obtain ⟨v1, ev1, h⟩ := bnd_some h
 refine Ops.on 1 (fun h0 e0 => (call_ok (E' := EG) (h := h0) (by kernel_rfl) Args.nil (ok12 m  v1 ev1 n (by omega)))) ?_
 obtain ⟨v2, ev2, h⟩ := bnd_some h
 refine Ops.on 2 (fun h0 e0 => (call_ok (E' := EG) (h := h0) (by kernel_rfl) (Args.v (.agg [(vP e55 v1.fClasses)]) (e23 v1) (by kernel_rfl) (Args.v (vI 2) (eI 2) (by kernel_rfl) Args.nil)) (ok7 m v1 2 v2 ev2 n (by omega)))) ?_
 refine Ops.sg 6 8 (Ops.dn (seqQ.n (Wp.sq (Wp.rg (Ops.sg 4 4 ?_)))))
 refine Ops.hv (fun KQ => ∀ (d5 d6 d7 d8 d9 d10 d11 : D) (v12 v13 : Bool), f4_r1 m v13 = some o → KQ 12 ⟨Zs19 v2.1 (.v (.tuple [(vP e40 v2.1), (.agg [(vI v2.2.fCode), (vI v2.2.fIndex)])])) (.v (.agg [(vP e55 v1.fClasses)])) (.v (.agg [(vI v2.2.fCode), (vI v2.2.fIndex)])) (.v (.agg [(vI 0), (vI 0)])) v12 (d5::d6::d7::d8::d9::d10::d11::(dB v13)::[]), [(.cells [(dI v2.2.fCode), (dI v2.2.fIndex)])]⟩) ?_ fun J4j14 => ?_
 ·intro d5 d6 d7 d8 d9 d10 d11 v12 v13 h
  unfold f4_r1 at h
  refine Ops.sg 1 13 (Ops.dn (seqQ.n (Wp.rt ?_)))
  exact fnQ.r' (X4 n) (fun z => (eB z)) h (RetOk.mk' (dB v13) (by kernel_rfl) (by kernel_rfl))
 obtain ⟨v13, ev13, h⟩ := bnd_some h
 refine Ops.hv (fun KQ => ∀ v3 : Bool, (cnd v3 (bnd (f13 m v2.1 ([(⟨(⟨#[100, 111, 103]⟩ : ByteArray), (⟨#[100, 111, 103]⟩ : ByteArray), [(⟨#[110]⟩ : ByteArray), (⟨#[115, 103]⟩ : ByteArray)], 0⟩ : S40), (⟨(⟨#[100, 111, 103]⟩ : ByteArray), (⟨#[100, 111, 103, 115]⟩ : ByteArray), [(⟨#[110]⟩ : ByteArray), (⟨#[112, 108]⟩ : ByteArray)], 2⟩ : S40)])) fun v15 => some v15) (some false)) = some v13 → KQ 4 ⟨Zs19 v2.1 (.v (.tuple [(vP e40 v2.1), (.agg [(vI v2.2.fCode), (vI v2.2.fIndex)])])) (.v (.agg [(vP e55 v1.fClasses)])) (.v (.agg [(vI v2.2.fCode), (vI v2.2.fIndex)])) (.v (.agg [(vI 0), (vI 0)])) v3 (u8 []), [(.cells [(dI v2.2.fCode), (dI v2.2.fIndex)])]⟩) ?_ fun G4g4 => Ops.sx (G4g4 ((v2.2.fCode == 0) && ((v2.2.fIndex == 0) && true)) ev13)
 intro v3 ev13
 cases v3
 ·have ev13 := cnd_f ev13
  refine Ops.sg 8 12 ?_
  exact Ops.sx (J4j14 U U U U U U U false false (some_sub (fun v13 => f4_r1 m v13 = some o) ev13 h))
 ·have ev13 := cnd_t ev13
  refine Ops.sg 6 10 ?_
  obtain ⟨v15, ev15, ev13⟩ := bnd_some ev13
  refine Ops.on 11 (fun h0 e0 => (call_ok (E' := EG) (h := h0) (by kernel_rfl) (Args.v (vP e40 v2.1) ((eL e40) v2.1) (by kernel_rfl) (Args.v (.sl .nonfull (List.map e40 ([(⟨(⟨#[100, 111, 103]⟩ : ByteArray), (⟨#[100, 111, 103]⟩ : ByteArray), [(⟨#[110]⟩ : ByteArray), (⟨#[115, 103]⟩ : ByteArray)], 0⟩ : S40), (⟨(⟨#[100, 111, 103]⟩ : ByteArray), (⟨#[100, 111, 103, 115]⟩ : ByteArray), [(⟨#[110]⟩ : ByteArray), (⟨#[112, 108]⟩ : ByteArray)], 2⟩ : S40)]))) ((eL e40) ([(⟨(⟨#[100, 111, 103]⟩ : ByteArray), (⟨#[100, 111, 103]⟩ : ByteArray), [(⟨#[110]⟩ : ByteArray), (⟨#[115, 103]⟩ : ByteArray)], 0⟩ : S40), (⟨(⟨#[100, 111, 103]⟩ : ByteArray), (⟨#[100, 111, 103, 115]⟩ : ByteArray), [(⟨#[110]⟩ : ByteArray), (⟨#[112, 108]⟩ : ByteArray)], 2⟩ : S40)])) (by kernel_rfl) Args.nil)) (ok13 m v2.1 ([(⟨(⟨#[100, 111, 103]⟩ : ByteArray), (⟨#[100, 111, 103]⟩ : ByteArray), [(⟨#[110]⟩ : ByteArray), (⟨#[115, 103]⟩ : ByteArray)], 0⟩ : S40), (⟨(⟨#[100, 111, 103]⟩ : ByteArray), (⟨#[100, 111, 103, 115]⟩ : ByteArray), [(⟨#[110]⟩ : ByteArray), (⟨#[112, 108]⟩ : ByteArray)], 2⟩ : S40)]) v15 ev15 n (by omega)))) ?_
  refine Ops.sg 1 12 ?_
  exact Ops.sx (J4j14 (dP e40 v2.1) ((.v (.sl .nonfull (List.map eS ([(⟨#[110]⟩ : ByteArray), (⟨#[115, 103]⟩ : ByteArray)]))))) ((.v (.agg [(.str ((⟨#[100, 111, 103]⟩ : ByteArray))), (.str ((⟨#[100, 111, 103]⟩ : ByteArray))), (.sl .nonfull (List.map eS ([(⟨#[110]⟩ : ByteArray), (⟨#[115, 103]⟩ : ByteArray)]))), (vI 0)]))) ((.v (.sl .nonfull (List.map eS ([(⟨#[110]⟩ : ByteArray), (⟨#[112, 108]⟩ : ByteArray)]))))) ((.v (.agg [(.str ((⟨#[100, 111, 103]⟩ : ByteArray))), (.str ((⟨#[100, 111, 103, 115]⟩ : ByteArray))), (.sl .nonfull (List.map eS ([(⟨#[110]⟩ : ByteArray), (⟨#[112, 108]⟩ : ByteArray)]))), (vI 2)]))) ((.v (.sl .nonfull (List.map e40 ([(⟨(⟨#[100, 111, 103]⟩ : ByteArray), (⟨#[100, 111, 103]⟩ : ByteArray), [(⟨#[110]⟩ : ByteArray), (⟨#[115, 103]⟩ : ByteArray)], 0⟩ : S40), (⟨(⟨#[100, 111, 103]⟩ : ByteArray), (⟨#[100, 111, 103, 115]⟩ : ByteArray), [(⟨#[110]⟩ : ByteArray), (⟨#[112, 108]⟩ : ByteArray)], 2⟩ : S40)]))))) (dB v15) true v15 (some_sub (fun v13 => f4_r1 m v13 = some o) ev13 h))
def f15_B1 (m : Nat) (v60 : S55) (v67 : (List ByteArray)) (v68 : Int) : Option (Stp (List ByteArray) ((List ByteArray) × Int)) :=
 cnd (decide (v68 < (v60.fItems.length : Int)))
 (bnd (idx v60.fItems v68) fun v78 =>
 bnd (app 16 v67 v78.fTags) fun v79 =>
 some (.nxt (v79, w64 (v68 + 1))))
 (some (.brk (v67, v68)))
def f15_B2 (m : Nat) (a0 : S23) (v49 : (List ByteArray)) (v50 : Int) : Option (Stp (List ByteArray) ((List ByteArray) × Int)) :=
 cnd (decide (v50 < (a0.fClasses.length : Int)))
 (bnd (idx a0.fClasses v50) fun v60 =>
 brk (iter (fun (y : (List ByteArray) × Int) => f15_B1 m v60 y.1 y.2) m (v49, 0)) (fun r => some (.ret r)) fun y81 =>
 some (.nxt (y81.1, w64 (v50 + 1))))
 (some (.brk (v49, v50)))
def f15 (m : Nat) (a0 : S23) : Option (List ByteArray) :=
 brk (iter (fun (y : (List ByteArray) × Int) => f15_B2 m a0 y.1 y.2) m ([], 0)) some fun y84 =>
 bnd (srt y84.1) fun v86 =>
 some (compactS v86)
noncomputable abbrev X15 (n : Nat) : Cx := cxOf Proofs.Tryz.prog EG 15 n
noncomputable def C15 : Code := bodyOf Proofs.Tryz.prog 15
noncomputable abbrev p15_0 : Code := cL (cL (cR (cL (cR (cR C15)))))
noncomputable abbrev p15_1 : Code := cR (cR (cR p15_0))
abbrev b15_0 (w0 : S23) : AObj := .cells [(dP e55 w0.fClasses)]
abbrev b15_1 (w0 : S55) : AObj := .cells [(.v (.str w0.fName)), (dP e57 w0.fItems)]
abbrev k15_0 : List Nat := [2, 3, 9, 10, 11]
abbrev k15_1 : List Nat := [2, 3, 9, 10, 11, 16, 17, 18]
theorem ok15 (m : Nat) (a0 : S23) (o : (List ByteArray)) (h : f15 m a0 = some o) (n : Nat) (hn : m + 2 ≤ n) : FnO Proofs.Tryz.prog EG n 15 [.v (e23 a0)] ((eL eS) o) := by
 obtain ⟨n, rfl⟩ : ∃ q, n = q + 1 := ⟨n - 1, by omega⟩
 unfold f15 at h
 refine FnO.of (by kernel_rfl) (by kernel_rfl) (by kernel_rfl) ⟨(.v (.agg [(vP e55 a0.fClasses)]))::u31 [], []⟩ (by kernel_rfl) (Wp.sq (Wp.rg (Ops.sg 2 2 (Ops.dn (seqQ.n (Wp.sq (Wp.rg (Ops.sg 1 1 (Ops.dn (seqQ.n (Wp.sq (Wp.sq (Wp.rg (Ops.sg 2 2 ?_))))))))))))))
 refine Ops.on 3 (fun h0 e0 => (len_r (T := T) h0 22 56 .plain e55 a0.fClasses (by kernel_rfl))) ?_
 refine Ops.sg 1 4 (Ops.dn (seqQ.n (Wp.bk 0 [2, 3] 1 ?_)))
 have hLx83 : ∀ (kx52 : Nat) (v49 : (List ByteArray)) (v50 : Int)  (ox51 : (List ByteArray) ⊕ ((List ByteArray) × Int)), iter (fun (y : (List ByteArray) × Int) => f15_B2 m a0 y.1 y.2) kx52 (v49, v50) = some ox51 → ∀ nx53, kx52 ≤ nx53 → (∀ r, ox51 = .inl r → ∀ σ, RetOkO (X15 n) (resOf Proofs.Tryz.prog 15) ((eL eS) r) σ → (seqQ (X15 n) (cR (cR (cR C15))) (fnQO (X15 n).E.T (resOf Proofs.Tryz.prog 15) ((eL eS) o))) .ret σ) → (∀ (y : (List ByteArray) × Int) , ox51 = .inr y → (seqQ (X15 n) (cR (cR (cR C15))) (fnQO (X15 n).E.T (resOf Proofs.Tryz.prog 15) ((eL eS) o))) .normal ⟨Zs34 (.v (.sl .nil (List.map eS []))) y.1 (q28 []), [(b15_0 a0), (rowO 1 (List.map eS y.1))]⟩) → Lp (X15 n) k15_0 1 p15_0 nx53 ⟨Zs34 (.v (.sl .nil (List.map eS []))) v49 (q5 ((dP e55 a0.fClasses)::(dI (a0.fClasses.length : Int))::(dI v50)::q20 [])), [(b15_0 a0), (rowO 1 (List.map eS v49))]⟩ (blkQ (X15 n) 0 [2, 3] 1 (seqQ (X15 n) (cR (cR (cR C15))) (fnQO (X15 n).E.T (resOf Proofs.Tryz.prog 15) ((eL eS) o)))) := by
  intro kx52
  induction kx52 with
  | zero => intro v49 v50  ox51 h; exact (iter_zero h).elim
  | succ kx52 ihx54 =>
   intro v49 v50  ox51 h nx53 hnx57 hrx55 hxx56
   obtain ⟨nx53, rfl⟩ : ∃ q, nx53 = q + 1 := ⟨nx53 - 1, by omega⟩
   obtain ⟨sx58, h, hsx59⟩ := iter_some h
   have h : f15_B2 m a0 v49 v50 = some sx58 := h
   unfold f15_B2 at h
   refine Lp.succ (Wp.sq (Wp.rg (Ops.sg 1 1 (Ops.dn (seqQ.n (Wp.sq ?_))))))
   refine Wp.cd h k15_0 2 (fun h => ?_) (fun h => ?_)
   ·refine Wp.sk (sqQ.n ⟨q2 ((.v (.sl .nil (List.map eS [])))::(rowF .nil 2 (List.map eS v49))::q5 ((dP e55 a0.fClasses)::(dI (a0.fClasses.length : Int))::(dI v50)::q20 [])), [(b15_0 a0), .dead, (rowO 1 (List.map eS v49))]⟩ (by generalize v49 = z0; cases z0 <;> kernel_rfl) (seqQ.n (Wp.sq (Wp.bk 1 k15_0 3 (Wp.sq (Wp.rg ?_))))))
    obtain ⟨v60, ev60, h⟩ := bnd_some h
    refine Ops.on 1 (fun h0 e0 => (ix_r (T := T) h0 22 56 2 .plain e55 a0.fClasses v50 v60 ev60 (by kernel_rfl) (by kernel_rfl) (fun _ => rfl))) ?_
    refine Ops.sg 3 4 (Ops.dn (seqQ.n (Wp.sq (Wp.rg (Ops.sg 2 2 ?_)))))
    refine Ops.on 3 (fun h0 e0 => (len_r (T := T) h0 54 58 .plain e57 v60.fItems (by kernel_rfl))) ?_
    refine Ops.sg 1 4 (Ops.dn (seqQ.n (Wp.bk 2 k15_0 4 ?_)))
    have hLx80 : ∀ (kx70 : Nat) (v67 : (List ByteArray)) (v68 : Int)  (ox69 : (List ByteArray) ⊕ ((List ByteArray) × Int)), iter (fun (y : (List ByteArray) × Int) => f15_B1 m v60 y.1 y.2) kx70 (v67, v68) = some ox69 → ∀ nx71, kx70 ≤ nx71 → (∀ r, ox69 = .inl r → ∀ σ, RetOkO (X15 n) (resOf Proofs.Tryz.prog 15) ((eL eS) r) σ → (blkQ (X15 n) 1 k15_0 3 (seqQ (X15 n) p15_1 (lpQ (X15 n) k15_0 1 p15_0 nx53 (blkQ (X15 n) 0 [2, 3] 1 (seqQ (X15 n) (cR (cR (cR C15))) (fnQO (X15 n).E.T (resOf Proofs.Tryz.prog 15) ((eL eS) o))))))) .ret σ) → (∀ (y : (List ByteArray) × Int) , ox69 = .inr y → (blkQ (X15 n) 1 k15_0 3 (seqQ (X15 n) p15_1 (lpQ (X15 n) k15_0 1 p15_0 nx53 (blkQ (X15 n) 0 [2, 3] 1 (seqQ (X15 n) (cR (cR (cR C15))) (fnQO (X15 n).E.T (resOf Proofs.Tryz.prog 15) ((eL eS) o))))))) .normal ⟨Zs22 (.v (.sl .nil (List.map eS []))) y.1 a0.fClasses (a0.fClasses.length : Int) v50 (q20 []), [(b15_0 a0), .dead, .dead, (b15_1 v60), (rowO 1 (List.map eS y.1))]⟩) → Lp (X15 n) k15_1 4 (cL (cL (cR (cR (cL (cL (cR (cR p15_0)))))))) nx71 ⟨Zs22 (.v (.sl .nil (List.map eS []))) v67 a0.fClasses (a0.fClasses.length : Int) v50 (q4 ((dP e57 v60.fItems)::(dI (v60.fItems.length : Int))::(dI v68)::q13 [])), [(b15_0 a0), .dead, .dead, (b15_1 v60), (rowO 1 (List.map eS v67))]⟩ (blkQ (X15 n) 2 k15_0 4 (blkQ (X15 n) 1 k15_0 3 (seqQ (X15 n) p15_1 (lpQ (X15 n) k15_0 1 p15_0 nx53 (blkQ (X15 n) 0 [2, 3] 1 (seqQ (X15 n) (cR (cR (cR C15))) (fnQO (X15 n).E.T (resOf Proofs.Tryz.prog 15) ((eL eS) o)))))))) := by
     intro kx70
     induction kx70 with
     | zero => intro v67 v68  ox69 h; exact (iter_zero h).elim
     | succ kx70 ihx72 =>
      intro v67 v68  ox69 h nx71 hnx75 hrx73 hxx74
      obtain ⟨nx71, rfl⟩ : ∃ q, nx71 = q + 1 := ⟨nx71 - 1, by omega⟩
      obtain ⟨sx76, h, hsx77⟩ := iter_some h
      have h : f15_B1 m v60 v67 v68 = some sx76 := h
      unfold f15_B1 at h
      refine Lp.succ (Wp.sq (Wp.rg (Ops.sg 1 1 (Ops.dn (seqQ.n (Wp.sq ?_))))))
      refine Wp.cd h k15_1 5 (fun h => ?_) (fun h => ?_)
      ·refine Wp.sk (sqQ.n ⟨q2 ((.v (.sl .nil (List.map eS [])))::(rowF .nil 5 (List.map eS v67))::q5 ((dP e55 a0.fClasses)::(dI (a0.fClasses.length : Int))::(dI v50)::q4 ((dP e57 v60.fItems)::(dI (v60.fItems.length : Int))::(dI v68)::q13 []))), [(b15_0 a0), .dead, .dead, (b15_1 v60), .dead, (rowO 1 (List.map eS v67))]⟩ (by generalize v67 = z0; cases z0 <;> kernel_rfl) (seqQ.n (Wp.sq (Wp.bk 3 k15_1 6 (Wp.sq (Wp.rg ?_))))))
       obtain ⟨v78, ev78, h⟩ := bnd_some h
       refine Ops.on 1 (fun h0 e0 => (ix_r (T := T) h0 54 58 5 .plain e57 v60.fItems v68 v78 ev78 (by kernel_rfl) (by kernel_rfl) (fun _ => rfl))) ?_
       refine Ops.sg 3 4 (Ops.dn (seqQ.n (Wp.rg (Ops.sg 3 3 ?_))))
       obtain ⟨v79, ev79, h⟩ := bnd_some h
       refine Ops.on 4 (fun h0 e0 => (row_app (T := T) (g := .nil) h0 39 9 5 ti9 .plain eS v67 v78.fTags v79 ev79 (by kernel_rfl) (by kernel_rfl) (by kernel_rfl) (by kernel_rfl) (fun _ => rfl) (hq_of e0 (by kernel_rfl)))) ?_
       refine Ops.sg 1 5 (Ops.dn (blkQ.n ⟨q2 ((.v (.sl .nil (List.map eS [])))::(rowF .nil 6 (List.map eS v79))::q5 ((dP e55 a0.fClasses)::(dI (a0.fClasses.length : Int))::(dI v50)::q4 ((dP e57 v60.fItems)::(dI (v60.fItems.length : Int))::(dI v68)::q13 []))), [(b15_0 a0), .dead, .dead, (b15_1 v60), .dead, .dead, (rowO 1 (List.map eS v79))]⟩ (by generalize v79 = z0; cases z0 <;> kernel_rfl) (seqQ.n (Wp.rg (Ops.sg 2 2 (Ops.dn (lpQ.n ⟨Zs22 (.v (.sl .nil (List.map eS []))) v79 a0.fClasses (a0.fClasses.length : Int) v50 (q4 ((dP e57 v60.fItems)::(dI (v60.fItems.length : Int))::(dI (w64 (v68 + 1)))::q13 [])), [(b15_0 a0), .dead, .dead, (b15_1 v60), (rowO 1 (List.map eS v79))]⟩ (by generalize v79 = z0; cases z0 <;> kernel_rfl) ?_)))))))
       cases h
       exact ihx72 v79 (w64 (v68 + 1))  _ hsx77 _ (by omega) hrx73 hxx74
      ·refine Wp.ex 2 (sqQ.x (seqQ.x ?_))
       cases h
       refine lpQ.x (blkQ.x ⟨Zs22 (.v (.sl .nil (List.map eS []))) v67 a0.fClasses (a0.fClasses.length : Int) v50 (q20 []), [(b15_0 a0), .dead, .dead, (b15_1 v60), (rowO 1 (List.map eS v67))]⟩ (by generalize v67 = z0; cases z0 <;> kernel_rfl) ?_)
       exact hxx74 (v67, v68)  hsx77
    refine Wp.loop' k15_1 4 (by kernel_rfl) ⟨Zs22 (.v (.sl .nil (List.map eS []))) v49 a0.fClasses (a0.fClasses.length : Int) v50 (q4 ((dP e57 v60.fItems)::(dI (v60.fItems.length : Int))::(dI 0)::q13 [])), [(b15_0 a0), .dead, .dead, (b15_1 v60), (rowO 1 (List.map eS v49))]⟩ (by generalize v49 = z0; cases z0 <;> kernel_rfl) ?_
    rcases brk_some h with ⟨r82, er82, h⟩ | ⟨y81, ey81, h⟩
    ·refine hLx80 _ v49 0  _ er82 n (by omega) (fun r er σ hσ => ?_) (fun y  ey => by cases ey)
     cases er
     refine blkQ.r (seqQ.r (lpQ.r ?_))
     cases h
     refine blkQ.r ?_
     exact hrx55 _ hsx59 _ (RetOkO.forget k15_0 (by kernel_rfl) hσ)
    ·refine hLx80 _ v49 0  _ ey81 n (by omega) (fun r er => by cases er) (fun y  ey => ?_)
     cases ey
     refine blkQ.n ⟨q2 ((.v (.sl .nil (List.map eS [])))::(rowF .nil 3 (List.map eS y81.1))::q5 ((dP e55 a0.fClasses)::(dI (a0.fClasses.length : Int))::(dI v50)::q20 [])), [(b15_0 a0), .dead, .dead, (rowO 1 (List.map eS y81.1))]⟩ (by generalize y81.1 = z0; cases z0 <;> kernel_rfl) (seqQ.n (Wp.rg (Ops.sg 2 2 (Ops.dn (lpQ.n ⟨Zs34 (.v (.sl .nil (List.map eS []))) y81.1 (q5 ((dP e55 a0.fClasses)::(dI (a0.fClasses.length : Int))::(dI (w64 (v50 + 1)))::q20 [])), [(b15_0 a0), (rowO 1 (List.map eS y81.1))]⟩ (by generalize y81.1 = z0; cases z0 <;> kernel_rfl) ?_)))))
     cases h
     exact ihx54 y81.1 (w64 (v50 + 1))  _ hsx59 _ (by omega) hrx55 hxx56
   ·refine Wp.ex 0 (sqQ.x (seqQ.x ?_))
    cases h
    refine lpQ.x (blkQ.x ⟨Zs34 (.v (.sl .nil (List.map eS []))) v49 (q28 []), [(b15_0 a0), (rowO 1 (List.map eS v49))]⟩ (by generalize v49 = z0; cases z0 <;> kernel_rfl) ?_)
    exact hxx56 (v49, v50)  hsx59
 refine Wp.loop' k15_0 1 (by kernel_rfl) ⟨q2 ((.v (.sl .nil (List.map eS [])))::(rowF .nil 1 (List.map eS []))::q5 ((dP e55 a0.fClasses)::(dI (a0.fClasses.length : Int))::(dI 0)::q20 [])), [(b15_0 a0), (rowO 1 (List.map eS []))]⟩ (by kernel_rfl) ?_
 rcases brk_some h with ⟨r85, er85, h⟩ | ⟨y84, ey84, h⟩
 ·refine hLx83 _ [] 0  _ er85 n (by omega) (fun r er σ hσ => ?_) (fun y  ey => by cases ey)
  cases er
  refine seqQ.r ?_
  exact fnQO.r' (X15 n) (fun z => ((eL eS) z)) h hσ
 ·refine hLx83 _ [] 0  _ ey84 n (by omega) (fun r er => by cases er) (fun y  ey => ?_)
  cases ey
  refine seqQ.n (Wp.sq (Wp.rg (Ops.sg 1 1 ?_)))
  obtain ⟨v86, ev86, h⟩ := bnd_some h
  refine Ops.on 2 (fun h0 e0 => (callD_own (P := Proofs.Tryz.prog) (E := EG) (E' := EG) (n := n) (f := 35) (by kernel_rfl) (by kernel_rfl) (by kernel_rfl) (row_sort h0 1 y84.1 v86 ev86 (hq_of e0 (by kernel_rfl))) (by omega))) ?_
  refine Ops.st ⟨q2 ((.v (.sl .nil (List.map eS [])))::(rowF .nil 1 (List.map eS y84.1))::q24 ((rowF .nil 1 (List.map eS y84.1))::u1 (q2 []))), [(b15_0 a0), (rowO 1 (List.map eS v86))]⟩ (by kernel_rfl) ?_
  rw [srt_row 1 ev86]
  refine Ops.dn (seqQ.n (Wp.sq (Wp.rg (Ops.sg 1 1 ?_))))
  refine Ops.on 2 (fun h0 e0 => (callD_own (P := Proofs.Tryz.prog) (E := EG) (E' := EG) (n := n) (f := 36) (by kernel_rfl) (by kernel_rfl) (by kernel_rfl) (row_compact h0 1 v86 (hq_of e0 (by kernel_rfl))) (by omega))) ?_
  refine Ops.sg 1 3 (Ops.dn (seqQ.n (Wp.rt ?_)))
  exact fnQO.r' (X15 n) (fun z => ((eL eS) z)) h (RetOkO.row (g := .nil) 1 1 (List.map eS (compactS v86)) (by kernel_rfl) (by kernel_rfl) (flat_eS _))
def f39_r1 (m : Nat) (v16 : Bool) : Option Bool :=
 some v16
def f39_r2 (m : Nat) (a0 a1 : ByteArray) (v8 : Bool) : Option Bool :=
 f39_r1 m (v8 || (Op.bytesLess a0.toList a1.toList))
def f39 (m : Nat) (a0 a1 : ByteArray) : Option Bool :=
 bnd (f57 m a0) fun v1 =>
 bnd (cnd v1
 (bnd (f57 m a1) fun v18 =>
 some (!v18))
 (some false)) fun v8 =>
 f39_r2 m a0 a1 v8
noncomputable abbrev X39 (n : Nat) : Cx := cxOf Proofs.Tryz.prog EG 39 n
theorem ok39 (m : Nat) (a0 a1 : ByteArray) (o : Bool) (h : f39 m a0 a1 = some o) (n : Nat) (hn : m + 2 ≤ n) : Fn Proofs.Tryz.prog EG n 39 [.v (eS a0), .v (eS a1)] (eB o) := by
 obtain ⟨n, rfl⟩ : ∃ q, n = q + 1 := ⟨n - 1, by omega⟩
 unfold f39 at h
 refine Fn.of (by kernel_rfl) (by kernel_rfl) (by kernel_rfl) ⟨(.v (.str a0))::(.v (.str a1))::u15 [], []⟩ (by kernel_rfl) (Wp.sq (Wp.rg (Ops.sg 1 1 (Ops.dn (seqQ.n (Wp.sq (Wp.rg (Ops.sg 1 1 ?_))))))))
 obtain ⟨v1, ev1, h⟩ := bnd_some h
 refine Ops.on 2 (fun h0 e0 => (call_ok (E' := EG) (h := h0) (by kernel_rfl) (Args.v (.str a0) (eS a0) (by kernel_rfl) Args.nil) (ok57g m a0 v1 ev1 n (by omega)))) ?_
 refine Ops.sg 1 3 ?_
 refine Ops.hv (fun KQ => ∀ (d4 d5 d6 : D) (v7 v8 : Bool), f39_r2 m a0 a1 v8 = some o → KQ 7 ⟨Zs23 a0 a1 v7 (d4::d5::d6::(dB v8)::u5 []), []⟩) ?_ fun J39j9 => ?_
 ·intro d4 d5 d6 v7 v8 h
  unfold f39_r2 at h
  refine Ops.sg 1 8 ?_
  refine Ops.hv (fun KQ => ∀ (d12 d13 d14 : D) (v15 v16 : Bool), f39_r1 m v16 = some o → KQ 12 ⟨Zs23 a0 a1 v7 (d4::d5::d6::(dB v15)::(dB v15)::d12::d13::d14::(dB v16)::[]), []⟩) ?_ fun J39j17 => ?_
  ·intro d12 d13 d14 v15 v16 h
   unfold f39_r1 at h
   refine Ops.sg 1 13 (Ops.dn (seqQ.n (Wp.rt ?_)))
   exact fnQ.r' (X39 n) (fun z => (eB z)) h (RetOk.mk' (dB v16) (by kernel_rfl) (by kernel_rfl))
  refine Ops.hv (fun KQ => ∀ v10 : Bool, f39_r1 m (v10 || (Op.bytesLess a0.toList a1.toList)) = some o → KQ 8 ⟨Zs23 a0 a1 v7 (d4::d5::d6::(dB v10)::(dB v10)::u4 []), []⟩) ?_ fun G39g11 => Ops.sx (G39g11 v8 h)
  intro v10 h
  cases v10
  ·refine Ops.sg 4 12 ?_
   exact Ops.sx (J39j17 (.v (.str a0)) (.v (.str a1)) (dB (Op.bytesLess a0.toList a1.toList)) false (Op.bytesLess a0.toList a1.toList) h)
  ·refine Ops.sg 4 12 ?_
   exact Ops.sx (J39j17 U U U true true h)
 obtain ⟨v8, ev8, h⟩ := bnd_some h
 refine Ops.hv (fun KQ => ∀ v2 : Bool, (cnd v2 (bnd (f57 m a1) fun v18 => some (!v18)) (some false)) = some v8 → KQ 3 ⟨Zs23 a0 a1 v2 (u9 []), []⟩) ?_ fun G39g3 => Ops.sx (G39g3 v1 ev8)
 intro v2 ev8
 cases v2
 ·have ev8 := cnd_f ev8
  refine Ops.sg 4 7 ?_
  exact Ops.sx (J39j9 U U U false false (some_sub (fun v8 => f39_r2 m a0 a1 v8 = some o) ev8 h))
 ·have ev8 := cnd_t ev8
  refine Ops.sg 1 4 ?_
  obtain ⟨v18, ev18, ev8⟩ := bnd_some ev8
  refine Ops.on 5 (fun h0 e0 => (call_ok (E' := EG) (h := h0) (by kernel_rfl) (Args.v (.str a1) (eS a1) (by kernel_rfl) Args.nil) (ok57g m a1 v18 ev18 n (by omega)))) ?_
  refine Ops.sg 2 7 ?_
  exact Ops.sx (J39j9 (.v (.str a1)) (dB v18) (dB (!v18)) true (!v18) (some_sub (fun v8 => f39_r2 m a0 a1 v8 = some o) ev8 h))
def f40 (m : Nat) (a0 : ByteArray) : Option Bool :=
 some (!(a0.toList == a0.toList))
noncomputable abbrev X40 (n : Nat) : Cx := cxOf Proofs.Tryz.prog EG 40 n
theorem ok40 (m : Nat) (a0 : ByteArray) (o : Bool) (h : f40 m a0 = some o) (n : Nat) (hn : m + 1 ≤ n) : Fn Proofs.Tryz.prog EG n 40 [.v (eS a0)] (eB o) := by
 obtain ⟨n, rfl⟩ : ∃ q, n = q + 1 := ⟨n - 1, by omega⟩
 unfold f40 at h
 refine Fn.of (by kernel_rfl) (by kernel_rfl) (by kernel_rfl) ⟨(.v (.str a0))::u5 [], []⟩ (by kernel_rfl) (Wp.sq (Wp.rg (Ops.sg 1 1 (Ops.dn (seqQ.n (Wp.sq (Wp.rg (Ops.sg 4 4 (Ops.dn (seqQ.n (Wp.rt ?_)))))))))))
 exact fnQ.r' (X40 n) (fun z => (eB z)) h (RetOk.mk' (dB (!(a0.toList == a0.toList))) (by kernel_rfl) (by kernel_rfl))
def f17_j1 (m : Nat) (v48 v49 : Int) (v51 : ByteArray) (v52 : Bool) : Option (Stp (Int × Bool) (Int × Int)) :=
 some (.nxt (v48, v49))
def f17_j2 (m : Nat) (v57 : ByteArray) (v58 : Bool) (v59 v60 : Int) : Option (Stp (Int × Bool) (Int × Int)) :=
 f17_j1 m v59 v60 v57 v58
def f17_B3 (m : Nat) (a0 : (List ByteArray)) (a1 : ByteArray) (v37 v38 : Int) : Option (Stp (Int × Bool) (Int × Int)) :=
 cnd (decide (v37 < v38))
 (bnd (idx a0 (w64 (Int.fdiv (IntKind.u64.wrap (w64 (v37 + v38))) (2 ^ (min (1 : Int).toNat IntKind.u64.bits))))) fun v57 =>
 bnd (f39 m v57 a1) fun v58 =>
 cnd v58
 (f17_j2 m v57 v58 (w64 (w64 (Int.fdiv (IntKind.u64.wrap (w64 (v37 + v38))) (2 ^ (min (1 : Int).toNat IntKind.u64.bits))) + 1)) v38)
 (f17_j2 m v57 v58 v37 (w64 (Int.fdiv (IntKind.u64.wrap (w64 (v37 + v38))) (2 ^ (min (1 : Int).toNat IntKind.u64.bits))))))
 (some (.brk (v37, v38)))
def f17_r4 (m : Nat) (y66 : Int × Int) (v88 : Bool) : Option (Int × Bool) :=
 some ((y66.1, v88))
def f17 (m : Nat) (a0 : (List ByteArray)) (a1 : ByteArray) : Option (Int × Bool) :=
 brk (iter (fun (y : Int × Int) => f17_B3 m a0 a1 y.1 y.2) m (0, (a0.length : Int))) some fun y66 =>
 bnd (cnd (decide (y66.1 < (a0.length : Int)))
 (bnd (idx a0 y66.1) fun v90 =>
 cnd (v90.toList == a1.toList)
 (some true)
 (bnd (idx a0 y66.1) fun v93 =>
 bnd (f40 m v93) fun v94 =>
 cnd v94
 (bnd (f40 m a1) fun v97 =>
 some v97)
 (some false)))
 (some false)) fun v88 =>
 f17_r4 m y66 v88
noncomputable abbrev X17 (n : Nat) : Cx := cxOf Proofs.Tryz.prog EG 17 n
noncomputable def C17 : Code := bodyOf Proofs.Tryz.prog 17
noncomputable abbrev p17_0 : Code := cR (cR (cR (cR C17)))
abbrev k17_0 : List Nat := [0, 1, 4, 5, 6, 7, 8]
theorem ok17 (m : Nat) (a0 : (List ByteArray)) (a1 : ByteArray) (o : (Int × Bool)) (h : f17 m a0 a1 = some o) (n : Nat) (hn : m + 3 ≤ n) : Fn Proofs.Tryz.prog EG n 17 [.v ((eL eS) a0), .v (eS a1)] (.tuple [eI o.1, eB o.2]) := by
 obtain ⟨n, rfl⟩ : ∃ q, n = q + 1 := ⟨n - 1, by omega⟩
 unfold f17 at h
 refine Fn.of (by kernel_rfl) (by kernel_rfl) (by kernel_rfl) ⟨(dP eS a0)::(.v (.str a1))::u40 (u12 []), []⟩ (by kernel_rfl) (Wp.sq (Wp.rg (Ops.sg 2 2 (Ops.dn (seqQ.n (Wp.sq (Wp.rg (Ops.sg 1 1 ?_))))))))
 refine Ops.on 2 (fun h0 e0 => (len_r (T := T) h0 39 9 .plain eS a0 (by kernel_rfl))) ?_
 refine Ops.sg 1 3 (Ops.dn (seqQ.n (Wp.sq (Wp.rg (Ops.sg 3 3 (Ops.dn (seqQ.n (Wp.sq (Wp.bk 0 [0, 1, 4, 5, 6, 7] 0 ?_)))))))))
 have hLx65 : ∀ (kx40 : Nat) (v37 v38 : Int)  (ox39 : (Int × Bool) ⊕ (Int × Int)), iter (fun (y : Int × Int) => f17_B3 m a0 a1 y.1 y.2) kx40 (v37, v38) = some ox39 → ∀ nx41, kx40 ≤ nx41 → (∀ r, ox39 = .inl r → ∀ σ, RetOk (X17 n) (resOf Proofs.Tryz.prog 17) (.tuple [eI r.1, eB r.2]) σ → (seqQ (X17 n) p17_0 (fnQ (X17 n).E.T (resOf Proofs.Tryz.prog 17) (.tuple [eI o.1, eB o.2]))) .ret σ) → (∀ (y : Int × Int) , ox39 = .inr y → (seqQ (X17 n) p17_0 (fnQ (X17 n).E.T (resOf Proofs.Tryz.prog 17) (.tuple [eI o.1, eB o.2]))) .normal ⟨Zs10 a0 a1 (a0.length : Int) y.1 y.2 (q40 (q5 [])), []⟩) → Lp (X17 n) k17_0 0 (cL (cL (cL (cR (cR (cR C17)))))) nx41 ⟨Zs10 a0 a1 (a0.length : Int) v37 v38 (q40 (q5 [])), []⟩ (blkQ (X17 n) 0 [0, 1, 4, 5, 6, 7] 0 (seqQ (X17 n) p17_0 (fnQ (X17 n).E.T (resOf Proofs.Tryz.prog 17) (.tuple [eI o.1, eB o.2])))) := by
  intro kx40
  induction kx40 with
  | zero => intro v37 v38  ox39 h; exact (iter_zero h).elim
  | succ kx40 ihx42 =>
   intro v37 v38  ox39 h nx41 hnx45 hrx43 hxx44
   obtain ⟨nx41, rfl⟩ : ∃ q, nx41 = q + 1 := ⟨nx41 - 1, by omega⟩
   obtain ⟨sx46, h, hsx47⟩ := iter_some h
   have h : f17_B3 m a0 a1 v37 v38 = some sx46 := h
   unfold f17_B3 at h
   refine Lp.succ (Wp.sq (Wp.sq (Wp.rg (Ops.sg 3 3 (Ops.dn (seqQ.n ?_))))))
   refine Wp.cd h k17_0 0 (fun h => ?_) (fun h => ?_)
   ·refine Wp.sk (sqQ.n' (seqQ.n ?_))
    have J17j56 : ∀ (v48 v49 : Int) (v51 : ByteArray) (v52 : Bool) (d50 d53 d54 d55 : D), f17_j1 m v48 v49 v51 v52 = some sx46 → (lpQ (X17 n) k17_0 0 (cL (cL (cL (cR (cR (cR C17)))))) nx41 (blkQ (X17 n) 0 [0, 1, 4, 5, 6, 7] 0 (seqQ (X17 n) p17_0 (fnQ (X17 n).E.T (resOf Proofs.Tryz.prog 17) (.tuple [eI o.1, eB o.2]))))) .normal ⟨Zs8 a0 a1 (a0.length : Int) v48 v49 (w64 (Int.fdiv (IntKind.u64.wrap (w64 (v37 + v38))) (2 ^ (min (1 : Int).toNat IntKind.u64.bits)))) v37 v38 (decide (v37 < v38)) (w64 (v37 + v38)) (.v (.int .u64 (IntKind.u64.wrap (w64 (v37 + v38))))) (.v (.int .u64 (Int.fdiv (IntKind.u64.wrap (w64 (v37 + v38))) (2 ^ (min (1 : Int).toNat IntKind.u64.bits))))) d50 v51 v52 d53 d54 d55 [], []⟩ := by
     intro v48 v49 v51 v52 d50 d53 d54 d55 h
     unfold f17_j1 at h
     refine lpQ.m ⟨Zs10 a0 a1 (a0.length : Int) v48 v49 (q40 (q5 [])), []⟩ ?_
     cases h
     exact ihx42 v48 v49  _ hsx47 _ (by omega) hrx43 hxx44
    refine Wp.bk 1 k17_0 0 (Wp.sq (Wp.rg (Ops.sg 7 7 (Ops.dn (seqQ.n (Wp.sq (Wp.rg (Ops.sg 2 2 ?_))))))))
    obtain ⟨v57, ev57, h⟩ := bnd_some h
    refine Ops.on 3 (fun h0 e0 => (ix_r (T := T) h0 39 9 1 .plain eS a0 (w64 (Int.fdiv (IntKind.u64.wrap (w64 (v37 + v38))) (2 ^ (min (1 : Int).toNat IntKind.u64.bits)))) v57 ev57 (by kernel_rfl) (by kernel_rfl) (fun _ => rfl))) ?_
    refine Ops.sg 2 5 ?_
    obtain ⟨v58, ev58, h⟩ := bnd_some h
    refine Ops.on 6 (fun h0 e0 => (call_ok (E' := EG) (h := h0) (by kernel_rfl) (Args.v (.str v57) (eS v57) (by kernel_rfl) (Args.v (.str a1) (eS a1) (by kernel_rfl) Args.nil)) (ok39 m v57 a1 v58 ev58 n (by omega)))) ?_
    refine Ops.dn (seqQ.n ?_)
    have J17j64 : ∀ (v59 v60 : Int) (d61 d62 d63 : D), f17_j2 m v57 v58 v59 v60 = some sx46 → (blkQ (X17 n) 1 k17_0 0 (lpQ (X17 n) k17_0 0 (cL (cL (cL (cR (cR (cR C17)))))) nx41 (blkQ (X17 n) 0 [0, 1, 4, 5, 6, 7] 0 (seqQ (X17 n) p17_0 (fnQ (X17 n).E.T (resOf Proofs.Tryz.prog 17) (.tuple [eI o.1, eB o.2])))))) .normal ⟨Zs8 a0 a1 (a0.length : Int) v59 v60 (w64 (Int.fdiv (IntKind.u64.wrap (w64 (v37 + v38))) (2 ^ (min (1 : Int).toNat IntKind.u64.bits)))) v37 v38 (decide (v37 < v38)) (w64 (v37 + v38)) (.v (.int .u64 (IntKind.u64.wrap (w64 (v37 + v38))))) (.v (.int .u64 (Int.fdiv (IntKind.u64.wrap (w64 (v37 + v38))) (2 ^ (min (1 : Int).toNat IntKind.u64.bits))))) (.vptr [(.str v57)]) v57 v58 d61 d62 d63 [], []⟩ := by
     intro v59 v60 d61 d62 d63 h
     unfold f17_j2 at h
     refine blkQ.m ⟨Zs8 a0 a1 (a0.length : Int) v59 v60 (w64 (Int.fdiv (IntKind.u64.wrap (w64 (v37 + v38))) (2 ^ (min (1 : Int).toNat IntKind.u64.bits)))) v37 v38 (decide (v37 < v38)) (w64 (v37 + v38)) (.v (.int .u64 (IntKind.u64.wrap (w64 (v37 + v38))))) (.v (.int .u64 (Int.fdiv (IntKind.u64.wrap (w64 (v37 + v38))) (2 ^ (min (1 : Int).toNat IntKind.u64.bits))))) (.vptr [(.str v57)]) v57 v58 d61 d62 d63 [], []⟩ ?_
     exact J17j56 v59 v60 v57 v58 _ _ _ _ h
    refine Wp.cd h k17_0 0 (fun h => ?_) (fun h => ?_)
    ·refine Wp.rg (Ops.sg 3 3 (Ops.dn (sqQ.m ⟨Zs10 a0 a1 (a0.length : Int) (w64 (w64 (Int.fdiv (IntKind.u64.wrap (w64 (v37 + v38))) (2 ^ (min (1 : Int).toNat IntKind.u64.bits))) + 1)) v38 ((dI (w64 (Int.fdiv (IntKind.u64.wrap (w64 (v37 + v38))) (2 ^ (min (1 : Int).toNat IntKind.u64.bits)))))::q3 ((dI v37)::(dI v38)::(dB (decide (v37 < v38)))::(dI v37)::(dI v38)::(dI (w64 (v37 + v38)))::(.v (.int .u64 (IntKind.u64.wrap (w64 (v37 + v38)))))::(.v (.int .u64 (Int.fdiv (IntKind.u64.wrap (w64 (v37 + v38))) (2 ^ (min (1 : Int).toNat IntKind.u64.bits)))))::(dI (w64 (Int.fdiv (IntKind.u64.wrap (w64 (v37 + v38))) (2 ^ (min (1 : Int).toNat IntKind.u64.bits)))))::(dP eS a0)::(dI (w64 (Int.fdiv (IntKind.u64.wrap (w64 (v37 + v38))) (2 ^ (min (1 : Int).toNat IntKind.u64.bits)))))::(.vptr [(.str v57)])::(.v (.str v57))::(.v (.str a1))::(dB v58)::(dI (w64 (Int.fdiv (IntKind.u64.wrap (w64 (v37 + v38))) (2 ^ (min (1 : Int).toNat IntKind.u64.bits)))))::(dI (w64 (w64 (Int.fdiv (IntKind.u64.wrap (w64 (v37 + v38))) (2 ^ (min (1 : Int).toNat IntKind.u64.bits))) + 1)))::q24 [])), []⟩ ?_)))
     exact J17j64 (w64 (w64 (Int.fdiv (IntKind.u64.wrap (w64 (v37 + v38))) (2 ^ (min (1 : Int).toNat IntKind.u64.bits))) + 1)) v38 _ _ _ h
    ·refine Wp.rg (Ops.sg 2 2 (Ops.dn (sqQ.m ⟨Zs10 a0 a1 (a0.length : Int) v37 (w64 (Int.fdiv (IntKind.u64.wrap (w64 (v37 + v38))) (2 ^ (min (1 : Int).toNat IntKind.u64.bits)))) ((dI (w64 (Int.fdiv (IntKind.u64.wrap (w64 (v37 + v38))) (2 ^ (min (1 : Int).toNat IntKind.u64.bits)))))::q3 ((dI v37)::(dI v38)::(dB (decide (v37 < v38)))::(dI v37)::(dI v38)::(dI (w64 (v37 + v38)))::(.v (.int .u64 (IntKind.u64.wrap (w64 (v37 + v38)))))::(.v (.int .u64 (Int.fdiv (IntKind.u64.wrap (w64 (v37 + v38))) (2 ^ (min (1 : Int).toNat IntKind.u64.bits)))))::(dI (w64 (Int.fdiv (IntKind.u64.wrap (w64 (v37 + v38))) (2 ^ (min (1 : Int).toNat IntKind.u64.bits)))))::(dP eS a0)::(dI (w64 (Int.fdiv (IntKind.u64.wrap (w64 (v37 + v38))) (2 ^ (min (1 : Int).toNat IntKind.u64.bits)))))::(.vptr [(.str v57)])::(.v (.str v57))::(.v (.str a1))::(dB v58)::q2 ((dI (w64 (Int.fdiv (IntKind.u64.wrap (w64 (v37 + v38))) (2 ^ (min (1 : Int).toNat IntKind.u64.bits)))))::q23 []))), []⟩ ?_)))
     exact J17j64 v37 (w64 (Int.fdiv (IntKind.u64.wrap (w64 (v37 + v38))) (2 ^ (min (1 : Int).toNat IntKind.u64.bits)))) _ _ _ h
   ·refine Wp.ex 0 (sqQ.x (seqQ.x ?_))
    cases h
    refine lpQ.x (blkQ.w ⟨Zs10 a0 a1 (a0.length : Int) v37 v38 (q40 (q5 [])), []⟩ ?_)
    exact hxx44 (v37, v38)  hsx47
 refine Wp.loop' k17_0 0 (by kernel_rfl) ⟨(dP eS a0)::(.v (.str a1))::q2 ((dI 0)::(dB false)::(dI (a0.length : Int))::(dI 0)::(dI (a0.length : Int))::q40 (q5 [])), []⟩ (by kernel_rfl) ?_
 rcases brk_some h with ⟨r67, er67, h⟩ | ⟨y66, ey66, h⟩
 ·refine hLx65 _ 0 (a0.length : Int)  _ er67 n (by omega) (fun r er σ hσ => ?_) (fun y  ey => by cases ey)
  cases er
  refine seqQ.r ?_
  exact fnQ.r' (X17 n) (fun z => (.tuple [eI z.1, eB z.2])) h hσ
 ·refine hLx65 _ 0 (a0.length : Int)  _ ey66 n (by omega) (fun r er => by cases er) (fun y  ey => ?_)
  cases ey
  refine seqQ.n (Wp.sq (Wp.rg (Ops.sg 5 5 ?_)))
  refine Ops.hv (fun KQ => ∀ (d70 d71 d72 d73 d74 d75 d76 d77 d78 d79 d80 d81 d82 d83 d84 d85 d86 : D) (v87 v88 : Bool), f17_r4 m y66 v88 = some o → KQ 23 ⟨Zs10 a0 a1 (a0.length : Int) y66.1 y66.2 (q22 ((dI y66.1)::(dI y66.1)::(dI (a0.length : Int))::(dB v87)::(dB v87)::d70::d71::d72::d73::d74::d75::d76::d77::d78::d79::d80::d81::d82::d83::d84::d85::d86::(dB v88)::[])), []⟩) ?_ fun J17j89 => ?_
  ·intro d70 d71 d72 d73 d74 d75 d76 d77 d78 d79 d80 d81 d82 d83 d84 d85 d86 v87 v88 h
   unfold f17_r4 at h
   refine Ops.sg 2 25 (Ops.dn (seqQ.n (Wp.rt ?_)))
   exact fnQ.r' (X17 n) (fun z => (.tuple [eI z.1, eB z.2])) h (RetOk.mk' (.v (.tuple [(vI y66.1), (vB v88)])) (by kernel_rfl) (by kernel_rfl))
  obtain ⟨v88, ev88, h⟩ := bnd_some h
  refine Ops.hv (fun KQ => ∀ v68 : Bool, (cnd v68 (bnd (idx a0 y66.1) fun v90 => cnd (v90.toList == a1.toList) (some true) (bnd (idx a0 y66.1) fun v93 => bnd (f40 m v93) fun v94 => cnd v94 (bnd (f40 m a1) fun v97 => some v97) (some false))) (some false)) = some v88 → KQ 5 ⟨Zs10 a0 a1 (a0.length : Int) y66.1 y66.2 (q22 ((dI y66.1)::(dI y66.1)::(dI (a0.length : Int))::(dB v68)::(dB v68)::q18 [])), []⟩) ?_ fun G17g69 => Ops.sx (G17g69 (decide (y66.1 < (a0.length : Int))) ev88)
  intro v68 ev88
  cases v68
  ·have ev88 := cnd_f ev88
   refine Ops.sg 18 23 ?_
   exact Ops.sx (J17j89 U U U U U U U U U U U U U U U U U false false (some_sub (fun v88 => f17_r4 m y66 v88 = some o) ev88 h))
  ·have ev88 := cnd_t ev88
   refine Ops.sg 2 7 ?_
   obtain ⟨v90, ev90, ev88⟩ := bnd_some ev88
   refine Ops.on 8 (fun h0 e0 => (ix_r (T := T) h0 39 9 1 .plain eS a0 y66.1 v90 ev90 (by kernel_rfl) (by kernel_rfl) (fun _ => rfl))) ?_
   refine Ops.sg 4 12 ?_
   refine Ops.hv (fun KQ => ∀ v91 : Bool, (cnd v91 (some true) (bnd (idx a0 y66.1) fun v93 => bnd (f40 m v93) fun v94 => cnd v94 (bnd (f40 m a1) fun v97 => some v97) (some false))) = some v88 → KQ 12 ⟨Zs10 a0 a1 (a0.length : Int) y66.1 y66.2 (q22 ((dI y66.1)::(dI y66.1)::(dI (a0.length : Int))::(dB true)::(dB true)::(dP eS a0)::(dI y66.1)::(.vptr [(.str v90)])::(.v (.str v90))::(.v (.str a1))::(dB v91)::(dB v91)::q11 [])), []⟩) ?_ fun G17g92 => Ops.sx (G17g92 (v90.toList == a1.toList) ev88)
   intro v91 ev88
   cases v91
   ·have ev88 := cnd_f ev88
    refine Ops.sg 2 14 ?_
    obtain ⟨v93, ev93, ev88⟩ := bnd_some ev88
    refine Ops.on 15 (fun h0 e0 => (ix_r (T := T) h0 39 9 1 .plain eS a0 y66.1 v93 ev93 (by kernel_rfl) (by kernel_rfl) (fun _ => rfl))) ?_
    refine Ops.sg 1 16 ?_
    obtain ⟨v94, ev94, ev88⟩ := bnd_some ev88
    refine Ops.on 17 (fun h0 e0 => (call_ok (E' := EG) (h := h0) (by kernel_rfl) (Args.v (.str v93) (eS v93) (by kernel_rfl) Args.nil) (ok40 m v93 v94 ev94 n (by omega)))) ?_
    refine Ops.sg 1 18 ?_
    refine Ops.hv (fun KQ => ∀ v95 : Bool, (cnd v95 (bnd (f40 m a1) fun v97 => some v97) (some false)) = some v88 → KQ 18 ⟨Zs10 a0 a1 (a0.length : Int) y66.1 y66.2 (q22 ((dI y66.1)::(dI y66.1)::(dI (a0.length : Int))::(dB true)::(dB true)::(dP eS a0)::(dI y66.1)::(.vptr [(.str v90)])::(.v (.str v90))::(.v (.str a1))::(dB false)::(dB false)::(dP eS a0)::(dI y66.1)::(.vptr [(.str v93)])::(.v (.str v93))::(dB v95)::(dB v95)::q5 [])), []⟩) ?_ fun G17g96 => Ops.sx (G17g96 v94 ev88)
    intro v95 ev88
    cases v95
    ·have ev88 := cnd_f ev88
     refine Ops.sg 5 23 ?_
     exact Ops.sx (J17j89 (dP eS a0) (dI y66.1) (.vptr [(.str v90)]) (.v (.str v90)) (.v (.str a1)) (dB false) (dB false) (dP eS a0) (dI y66.1) (.vptr [(.str v93)]) (.v (.str v93)) (dB false) (dB false) U U (dB false) (dB false) true false (some_sub (fun v88 => f17_r4 m y66 v88 = some o) ev88 h))
    ·have ev88 := cnd_t ev88
     refine Ops.sg 1 19 ?_
     obtain ⟨v97, ev97, ev88⟩ := bnd_some ev88
     refine Ops.on 20 (fun h0 e0 => (call_ok (E' := EG) (h := h0) (by kernel_rfl) (Args.v (.str a1) (eS a1) (by kernel_rfl) Args.nil) (ok40 m a1 v97 ev97 n (by omega)))) ?_
     refine Ops.sg 3 23 ?_
     exact Ops.sx (J17j89 (dP eS a0) (dI y66.1) (.vptr [(.str v90)]) (.v (.str v90)) (.v (.str a1)) (dB false) (dB false) (dP eS a0) (dI y66.1) (.vptr [(.str v93)]) (.v (.str v93)) (dB true) (dB true) (.v (.str a1)) (dB v97) (dB v97) (dB v97) true v97 (some_sub (fun v88 => f17_r4 m y66 v88 = some o) ev88 h))
   ·have ev88 := cnd_t ev88
    refine Ops.sg 11 23 ?_
    exact Ops.sx (J17j89 (dP eS a0) (dI y66.1) (.vptr [(.str v90)]) (.v (.str v90)) (.v (.str a1)) (dB true) (dB true) U U U U U U U U U (dB true) true true (some_sub (fun v88 => f17_r4 m y66 v88 = some o) ev88 h))
def f5_B1 (m : Nat) (v2 : (List ByteArray)) (v736 : S57) (v746 : (List Int)) (v747 : Int) : Option (Stp (S29 × S31) ((List Int) × Int)) :=
 cnd (decide (v747 < (v736.fTags.length : Int)))
 (bnd (idx v736.fTags v747) fun v757 =>
 bnd (f17 m v2 v757) fun v758 =>
 bnd (app 8 v746 ([w64 (983040 + v758.1)])) fun v759 =>
 some (.nxt (v759, w64 (v747 + 1))))
 (some (.brk (v746, v747)))
def f5_j2 (m : Nat) (v791 v792 v793 : Int) (v795 : (List S61)) (v805 v807 v809 v810 : Int) : Option (Stp (S29 × S31) (Int × Int × Int × Int × (List S61))) :=
 bnd (app 40 v795 ([(⟨v791, v810, v805, v807, v792⟩ : S61)])) fun v812 =>
 some (.nxt (v810, 0, w64 (v793 + 1), v809, v812))
def f5_j3 (m : Nat) (y761 : (List Int) × Int) (v763 : ((List Int) × S31)) (v764 v791 v792 v793 v794 : Int) (v795 : (List S61)) (v805 v807 : Int) : Option (Stp (S29 × S31) (Int × Int × Int × Int × (List S61))) :=
 cnd (decide (v793 < w64 ((if 1 > (if (v763.1.length : Int) > (y761.1.length : Int) then (v763.1.length : Int) else (y761.1.length : Int)) then 1 else (if (v763.1.length : Int) > (y761.1.length : Int) then (v763.1.length : Int) else (y761.1.length : Int))) - 1)))
 (f5_j2 m v791 v792 v793 v795 v805 v807 (w64 (v794 + 1)) v794)
 (f5_j2 m v791 v792 v793 v795 v805 v807 v794 v764)
def f5_j4 (m : Nat) (y761 : (List Int) × Int) (v763 : ((List Int) × S31)) (v764 v791 v792 v793 v794 : Int) (v795 : (List S61)) (v805 : Int) : Option (Stp (S29 × S31) (Int × Int × Int × Int × (List S61))) :=
 cnd (decide (v793 < (v763.1.length : Int)))
 (bnd (idx v763.1 v793) fun v813 =>
 f5_j3 m y761 v763 v764 v791 v792 v793 v794 v795 v805 v813)
 (f5_j3 m y761 v763 v764 v791 v792 v793 v794 v795 v805 0)
def f5_B5 (m : Nat) (y761 : (List Int) × Int) (v763 : ((List Int) × S31)) (v764 v791 v792 v793 v794 : Int) (v795 : (List S61)) : Option (Stp (S29 × S31) (Int × Int × Int × Int × (List S61))) :=
 cnd (decide (v793 < (if 1 > (if (v763.1.length : Int) > (y761.1.length : Int) then (v763.1.length : Int) else (y761.1.length : Int)) then 1 else (if (v763.1.length : Int) > (y761.1.length : Int) then (v763.1.length : Int) else (y761.1.length : Int)))))
 (cnd (decide (v793 < (y761.1.length : Int)))
 (bnd (idx y761.1 v793) fun v814 =>
 f5_j4 m y761 v763 v764 v791 v792 v793 v794 v795 v814)
 (f5_j4 m y761 v763 v764 v791 v792 v793 v794 v795 0))
 (some (.brk (v791, v792, v793, v794, v795)))
def f5_j6 (m : Nat) (v542 v724 v725 : Int) (v726 : (List S61)) (v736 : S57) (y761 : (List Int) × Int) (v763 : ((List Int) × S31)) (v764 : Int) : Option (Stp (S29 × S31) (Int × Int × (List S61))) :=
 brk (iter (fun (y : Int × Int × Int × Int × (List S61)) => f5_B5 m y761 v763 v764 y.1 y.2.1 y.2.2.1 y.2.2.2.1 y.2.2.2.2) m (v542, v736.fWeight, 0, v725, v726)) (fun r => some (.ret r)) fun y816 =>
 cnd (decide (y816.2.2.2.1 > 400))
 (bnd (f18 m 17 (-1)) fun v818 =>
 some (.ret (((⟨0, [], []⟩ : S29), v818))))
 (some (.nxt (w64 (v724 + 1), y816.2.2.2.1, y816.2.2.2.2)))
def f5_B7 (m : Nat) (a0 : S23) (v2 : (List ByteArray)) (v542 : Int) (v554 : S55) (v724 v725 : Int) (v726 : (List S61)) : Option (Stp (S29 × S31) (Int × Int × (List S61))) :=
 cnd (decide (v724 < (v554.fItems.length : Int)))
 (bnd (idx v554.fItems v724) fun v736 =>
 bnd (f16 m v736.fBase) fun v737 =>
 brk (iter (fun (y : (List Int) × Int) => f5_B1 m v2 v736 y.1 y.2) m (v737.1, 0)) (fun r => some (.ret r)) fun y761 =>
 bnd (f16 m v736.fForm) fun v763 =>
 cnd (decide (v736.fNext ≥ 0))
 (f5_j6 m v542 v724 v725 v726 v736 y761 v763 v736.fNext)
 (f5_j6 m v542 v724 v725 v726 v736 y761 v763 (a0.fClasses.length : Int)))
 (some (.brk (v724, v725, v726)))
def f5_B8 (m : Nat) (a0 : S23) (v2 : (List ByteArray)) (v542 v543 : Int) (v544 : (List S61)) : Option (Stp (S29 × S31) (Int × Int × (List S61))) :=
 cnd (decide (v542 < (a0.fClasses.length : Int)))
 (bnd (idx a0.fClasses v542) fun v554 =>
 brk (iter (fun (y : Int × Int × (List S61)) => f5_B7 m a0 v2 v542 v554 y.1 y.2.1 y.2.2) m (0, v543, v544)) (fun r => some (.ret r)) fun y820 =>
 some (.nxt (w64 (v542 + 1), y820.2.1, y820.2.2)))
 (some (.brk (v542, v543, v544)))
def f5 (m : Nat) (a0 : S23) : Option (S29 × S31) :=
 bnd (f14 m a0) fun v1 =>
 cnd (!((v1.fCode == 0) && ((v1.fIndex == 0) && true)))
 (some (((⟨0, [], []⟩ : S29), v1)))
 (bnd (f15 m a0) fun v2 =>
 brk (iter (fun (y : Int × Int × (List S61)) => f5_B8 m a0 v2 y.1 y.2.1 y.2.2) m (0, w64 ((a0.fClasses.length : Int) + 1), [])) some fun y823 =>
 bnd (srt19 y823.2.2) fun v825 =>
 bnd (cmpct21 v825) fun v826 =>
 cnd (decide ((v826.length : Int) > 2000))
 (bnd (f18 m 17 (-1)) fun v827 =>
 some (((⟨0, [], []⟩ : S29), v827)))
 (some (((⟨y823.2.1, v826, [(⟨(a0.fClasses.length : Int), 0⟩ : S52)]⟩ : S29), (⟨0, 0⟩ : S31)))))
noncomputable abbrev X5 (n : Nat) : Cx := cxOf Proofs.Tryz.prog EG 5 n
noncomputable def C5 : Code := bodyOf Proofs.Tryz.prog 5
noncomputable abbrev p5_0 : Code := cR (cR (cR (cR (cR (cR C5)))))
noncomputable abbrev p5_1 : Code := cL (cL (cR (cL (cR (cR (cR (cR (cR C5))))))))
noncomputable abbrev p5_2 : Code := cR (cR (cR p5_1))
noncomputable abbrev p5_3 : Code := cL (cL (cR (cR (cL (cL (cR (cR p5_1)))))))
noncomputable abbrev p5_4 : Code := cR (cR (cR p5_3))
noncomputable abbrev p5_5 : Code := cR (cR (cR (cL (cL (cR (cR p5_3))))))
noncomputable abbrev p5_6 : Code := cL (cL (cR (cL (cR (cR (cL (cL (cR (cR p5_3)))))))))
noncomputable abbrev p5_7 : Code := cR (cR (cR p5_5))
noncomputable abbrev p5_8 : Code := cR (cR (cR p5_7))
noncomputable abbrev p5_9 : Code := cL (cL (cR (cL (cR (cR p5_7)))))
noncomputable abbrev p5_10 : Code := cR (cR (cR p5_9))
noncomputable abbrev p5_11 : Code := cR (cR (cR (cL (cL (cR (cR p5_9))))))
noncomputable abbrev p5_12 : Code := cR p5_11
noncomputable abbrev p5_13 : Code := cR p5_12
abbrev b5_0 (w0 : S23) : AObj := .cells [(dP e55 w0.fClasses)]
abbrev b5_1 : AObj := .cells [(dI 0), (.v (.sl .nil (List.map e61 []))), (.v (.sl .nil (List.map e52 [])))]
abbrev b5_2 : AObj := .cells [(dI 0), (dI 0)]
abbrev b5_3 (w0 : S31) : AObj := .cells [(dI w0.fCode), (dI w0.fIndex)]
abbrev b5_4 (w0 : S55) : AObj := .cells [(.v (.str w0.fName)), (dP e57 w0.fItems)]
abbrev b5_5 (w0 : S57) : AObj := .cells [(.v (.str w0.fBase)), (.v (.str w0.fForm)), (dP eS w0.fTags), (dI w0.fNext), (dI w0.fWeight)]
abbrev b5_6 (w0 : ((List Int) × S31)) : AObj := .cells [(dI w0.2.fCode), (dI w0.2.fIndex)]
abbrev b5_7 (w0 w1 w2 w3 w4 : Int) : AObj := .cells [(dI w0), (dI w1), (dI w2), (dI w3), (dI w4)]
abbrev k5_0 : List Nat := [2, 3, 5, 6, 7, 8, 45, 46, 47, 53, 54, 55]
abbrev k5_1 : List Nat := [2, 3, 5, 6, 7, 45, 46, 47]
abbrev k5_2 : List Nat := [2, 3, 5, 6, 7, 8, 12, 18, 20, 21, 22, 23, 45, 46, 47, 53, 54, 55, 104, 105]
abbrev k5_3 : List Nat := [2, 3, 5, 6, 7, 8, 12, 18, 20, 21, 24, 25, 45, 46, 47, 53, 54, 55, 104, 105]
abbrev k5_4 : List Nat := [2, 3, 5, 6, 7, 8, 11, 12, 45, 46, 47, 53, 54, 55, 66, 67, 68]
theorem f5_hLx815 (m : Nat) (a0 : S23) (o : (S29 × S31)) (n : Nat) (hn : m + 6 ≤ n + 1) (y761 : (List Int) × Int) (v763 : ((List Int) × S31)) (v764 : Int) (nx729 nx547 : Nat) (v2 : (List ByteArray)) (v542 : Int) (v554 : S55) (v724 : Int) (v1 : S31) (v736 : S57) (v737 : ((List Int) × S31)) : ∀ (kx797 : Nat) (v791 v792 v793 v794 : Int) (v795 : (List S61))  (ox796 : (S29 × S31) ⊕ (Int × Int × Int × Int × (List S61))), iter (fun (y : Int × Int × Int × Int × (List S61)) => f5_B5 m y761 v763 v764 y.1 y.2.1 y.2.2.1 y.2.2.2.1 y.2.2.2.2) kx797 (v791, v792, v793, v794, v795) = some ox796 → ∀ nx798, kx797 ≤ nx798 → (∀ r, ox796 = .inl r → ∀ σ, RetOk (X5 n) (resOf Proofs.Tryz.prog 5) (.tuple [e29 r.1, e31 r.2]) σ → (seqQ (X5 n) p5_8 (blkQ (X5 n) 3 k5_0 16 (seqQ (X5 n) p5_4 (lpQ (X5 n) k5_0 12 p5_3 nx729 (blkQ (X5 n) 2 k5_1 12 (blkQ (X5 n) 1 k5_1 11 (seqQ (X5 n) p5_2 (lpQ (X5 n) k5_1 7 p5_1 nx547 (blkQ (X5 n) 0 [2, 3, 7] 7 (seqQ (X5 n) p5_0 (fnQ (X5 n).E.T (resOf Proofs.Tryz.prog 5) (.tuple [e29 o.1, e31 o.2])))))))))))) .ret σ) → (∀ (y : Int × Int × Int × Int × (List S61)) , ox796 = .inr y → (seqQ (X5 n) p5_8 (blkQ (X5 n) 3 k5_0 16 (seqQ (X5 n) p5_4 (lpQ (X5 n) k5_0 12 p5_3 nx729 (blkQ (X5 n) 2 k5_1 12 (blkQ (X5 n) 1 k5_1 11 (seqQ (X5 n) p5_2 (lpQ (X5 n) k5_1 7 p5_1 nx547 (blkQ (X5 n) 0 [2, 3, 7] 7 (seqQ (X5 n) p5_0 (fnQ (X5 n).E.T (resOf Proofs.Tryz.prog 5) (.tuple [e29 o.1, e31 o.2])))))))))))) .normal ⟨Zs0 v2 (a0.fClasses.length : Int) ((dI v542)::q36 ((dP e55 a0.fClasses)::(dI (a0.fClasses.length : Int))::(dI v542)::q5 ((dP e57 v554.fItems)::(dI (v554.fItems.length : Int))::(dI v724)::q40 (q40 (q36 []))))), [(b5_0 a0), b5_1, b5_2, (b5_3 v1), .dead, .dead, (.cells [(dI y.2.2.2.1), (rowF .nil 26 (List.map e61 y.2.2.2.2)), (.v (.sl .nonfull (List.map e52 ([(⟨(a0.fClasses.length : Int), 0⟩ : S52)]))))]), .dead, .dead, .dead, .dead, (b5_4 v554), .dead, .dead, .dead, .dead, (b5_5 v736), .dead, (b5_6 v737), .dead, .dead, (appO 1 (List.map eI v763.1)), (b5_6 v763), .dead, .dead, (appO 1 (List.map eI y761.1)), (rowO 5 (List.map e61 y.2.2.2.2))]⟩) → Lp (X5 n) k5_2 25 p5_9 nx798 ⟨Zs0 v2 (a0.fClasses.length : Int) ((dI v542)::q3 ((appD 25 (List.map eI y761.1))::q5 ((appD 21 (List.map eI v763.1))::q1 ((dI v764)::(dI (mX y761.1 v763.1))::(dI v791)::(dI v792)::q21 ((dP e55 a0.fClasses)::(dI (a0.fClasses.length : Int))::(dI v542)::q5 ((dP e57 v554.fItems)::(dI (v554.fItems.length : Int))::(dI v724)::q40 (q8 ((dI (mX y761.1 v763.1))::(dI v793)::q40 (q26 []))))))))), [(b5_0 a0), b5_1, b5_2, (b5_3 v1), .dead, .dead, (.cells [(dI v794), (rowF .nil 26 (List.map e61 v795)), (.v (.sl .nonfull (List.map e52 ([(⟨(a0.fClasses.length : Int), 0⟩ : S52)]))))]), .dead, .dead, .dead, .dead, (b5_4 v554), .dead, .dead, .dead, .dead, (b5_5 v736), .dead, (b5_6 v737), .dead, .dead, (appO 1 (List.map eI v763.1)), (b5_6 v763), .dead, .dead, (appO 1 (List.map eI y761.1)), (rowO 5 (List.map e61 v795))]⟩ (blkQ (X5 n) 6 k5_0 25 (seqQ (X5 n) p5_8 (blkQ (X5 n) 3 k5_0 16 (seqQ (X5 n) p5_4 (lpQ (X5 n) k5_0 12 p5_3 nx729 (blkQ (X5 n) 2 k5_1 12 (blkQ (X5 n) 1 k5_1 11 (seqQ (X5 n) p5_2 (lpQ (X5 n) k5_1 7 p5_1 nx547 (blkQ (X5 n) 0 [2, 3, 7] 7 (seqQ (X5 n) p5_0 (fnQ (X5 n).E.T (resOf Proofs.Tryz.prog 5) (.tuple [e29 o.1, e31 o.2]))))))))))))) := by
 intro kx797
 induction kx797 with
 | zero => intro v791 v792 v793 v794 v795  ox796 h; exact (iter_zero h).elim
 | succ kx797 ihx799 =>
  intro v791 v792 v793 v794 v795  ox796 h nx798 hnx802 hrx800 hxx801
  obtain ⟨nx798, rfl⟩ : ∃ q, nx798 = q + 1 := ⟨nx798 - 1, by omega⟩
  obtain ⟨sx803, h, hsx804⟩ := iter_some h
  have h : f5_B5 m y761 v763 v764 v791 v792 v793 v794 v795 = some sx803 := h
  unfold f5_B5 at h
  refine Lp.succ (Wp.sq (Wp.rg (Ops.sg 1 1 (Ops.dn (seqQ.n (Wp.sq ?_))))))
  refine Wp.cd h k5_2 27 (fun h => ?_) (fun h => ?_)
  ·refine Wp.sk (sqQ.n ⟨Zs0 v2 (a0.fClasses.length : Int) ((dI v542)::q3 ((appD 27 (List.map eI y761.1))::q5 ((appD 21 (List.map eI v763.1))::q1 ((dI v764)::(dI (mX y761.1 v763.1))::(dI v791)::(dI v792)::q21 ((dP e55 a0.fClasses)::(dI (a0.fClasses.length : Int))::(dI v542)::q5 ((dP e57 v554.fItems)::(dI (v554.fItems.length : Int))::(dI v724)::q40 (q8 ((dI (mX y761.1 v763.1))::(dI v793)::q40 (q26 []))))))))), [(b5_0 a0), b5_1, b5_2, (b5_3 v1), .dead, .dead, (.cells [(dI v794), (rowF .nil 28 (List.map e61 v795)), (.v (.sl .nonfull (List.map e52 ([(⟨(a0.fClasses.length : Int), 0⟩ : S52)]))))]), .dead, .dead, .dead, .dead, (b5_4 v554), .dead, .dead, .dead, .dead, (b5_5 v736), .dead, (b5_6 v737), .dead, .dead, (appO 1 (List.map eI v763.1)), (b5_6 v763), .dead, .dead, .dead, .dead, (appO 1 (List.map eI y761.1)), (rowO 5 (List.map e61 v795))]⟩ (by generalize y761.1 = z0; generalize v763.1 = z1; generalize v795 = z2; cases z0 <;> cases z1 <;> cases z2 <;> (as_aux_lemma => kernel_rfl)) (seqQ.n (Wp.sq (Wp.bk 7 k5_2 29 (Wp.sq (Wp.rg (Ops.sg 2 2 (Ops.dn (seqQ.n (Wp.sq (Wp.rg (Ops.sg 6 6 (Ops.dn (seqQ.n (Wp.sq (Wp.sq (Wp.rg (Ops.sg 2 2 ?_))))))))))))))))))
   refine Ops.on 3 (fun h0 e0 => (len_a (T := T) (g := .nil) h0 25 3 27 eI y761.1 (by kernel_rfl))) ?_
   refine Ops.sg 1 4 (Ops.dn (seqQ.n ?_))
   have J5j806 : ∀ (v805 : Int) , f5_j4 m y761 v763 v764 v791 v792 v793 v794 v795 v805 = some sx803 → (seqQ (X5 n) p5_11 (blkQ (X5 n) 7 k5_2 29 (seqQ (X5 n) p5_10 (lpQ (X5 n) k5_2 25 p5_9 nx798 (blkQ (X5 n) 6 k5_0 25 (seqQ (X5 n) p5_8 (blkQ (X5 n) 3 k5_0 16 (seqQ (X5 n) p5_4 (lpQ (X5 n) k5_0 12 p5_3 nx729 (blkQ (X5 n) 2 k5_1 12 (blkQ (X5 n) 1 k5_1 11 (seqQ (X5 n) p5_2 (lpQ (X5 n) k5_1 7 p5_1 nx547 (blkQ (X5 n) 0 [2, 3, 7] 7 (seqQ (X5 n) p5_0 (fnQ (X5 n).E.T (resOf Proofs.Tryz.prog 5) (.tuple [e29 o.1, e31 o.2]))))))))))))))))) .normal ⟨Zs0 v2 (a0.fClasses.length : Int) ((dI v542)::q3 ((appD 30 (List.map eI y761.1))::q5 ((appD 21 (List.map eI v763.1))::q1 ((dI v764)::(dI (mX y761.1 v763.1))::q2 ((dI v793)::(.ptr 29 0)::q19 ((dP e55 a0.fClasses)::(dI (a0.fClasses.length : Int))::(dI v542)::q5 ((dP e57 v554.fItems)::(dI (v554.fItems.length : Int))::(dI v724)::q40 (q8 ((dI (mX y761.1 v763.1))::(dI v793)::q40 (q26 [])))))))))), [(b5_0 a0), b5_1, b5_2, (b5_3 v1), .dead, .dead, (.cells [(dI v794), (rowF .nil 31 (List.map e61 v795)), (.v (.sl .nonfull (List.map e52 ([(⟨(a0.fClasses.length : Int), 0⟩ : S52)]))))]), .dead, .dead, .dead, .dead, (b5_4 v554), .dead, .dead, .dead, .dead, (b5_5 v736), .dead, (b5_6 v737), .dead, .dead, (appO 1 (List.map eI v763.1)), (b5_6 v763), .dead, .dead, .dead, .dead, .dead, .dead, (.cells [(dI v791), (dI v764), (dI v805), (dI 0), (dI v792)]), (appO 1 (List.map eI y761.1)), (rowO 5 (List.map e61 v795))]⟩ := by
    intro v805  h
    unfold f5_j4 at h
    refine seqQ.n (Wp.sq (Wp.sq (Wp.rg (Ops.sg 2 2 ?_))))
    refine Ops.on 3 (fun h0 e0 => (len_a (T := T) (g := .nil) h0 25 3 21 eI v763.1 (by kernel_rfl))) ?_
    refine Ops.sg 1 4 (Ops.dn (seqQ.n ?_))
    have J5j808 : ∀ (v807 : Int) , f5_j3 m y761 v763 v764 v791 v792 v793 v794 v795 v805 v807 = some sx803 → (seqQ (X5 n) p5_12 (blkQ (X5 n) 7 k5_2 29 (seqQ (X5 n) p5_10 (lpQ (X5 n) k5_2 25 p5_9 nx798 (blkQ (X5 n) 6 k5_0 25 (seqQ (X5 n) p5_8 (blkQ (X5 n) 3 k5_0 16 (seqQ (X5 n) p5_4 (lpQ (X5 n) k5_0 12 p5_3 nx729 (blkQ (X5 n) 2 k5_1 12 (blkQ (X5 n) 1 k5_1 11 (seqQ (X5 n) p5_2 (lpQ (X5 n) k5_1 7 p5_1 nx547 (blkQ (X5 n) 0 [2, 3, 7] 7 (seqQ (X5 n) p5_0 (fnQ (X5 n).E.T (resOf Proofs.Tryz.prog 5) (.tuple [e29 o.1, e31 o.2]))))))))))))))))) .normal ⟨Zs0 v2 (a0.fClasses.length : Int) ((dI v542)::q3 ((appD 32 (List.map eI y761.1))::q5 ((appD 21 (List.map eI v763.1))::q1 ((dI v764)::(dI (mX y761.1 v763.1))::q2 ((dI v793)::(.ptr 29 0)::q19 ((dP e55 a0.fClasses)::(dI (a0.fClasses.length : Int))::(dI v542)::q5 ((dP e57 v554.fItems)::(dI (v554.fItems.length : Int))::(dI v724)::q40 (q8 ((dI (mX y761.1 v763.1))::(dI v793)::q40 (q26 [])))))))))), [(b5_0 a0), b5_1, b5_2, (b5_3 v1), .dead, .dead, (.cells [(dI v794), (rowF .nil 33 (List.map e61 v795)), (.v (.sl .nonfull (List.map e52 ([(⟨(a0.fClasses.length : Int), 0⟩ : S52)]))))]), .dead, .dead, .dead, .dead, (b5_4 v554), .dead, .dead, .dead, .dead, (b5_5 v736), .dead, (b5_6 v737), .dead, .dead, (appO 1 (List.map eI v763.1)), (b5_6 v763), .dead, .dead, .dead, .dead, .dead, .dead, (b5_7 v791 v764 v805 v807 v792), .dead, .dead, (appO 1 (List.map eI y761.1)), (rowO 5 (List.map e61 v795))]⟩ := by
     intro v807  h
     unfold f5_j3 at h
     refine seqQ.n (Wp.sq (Wp.sq (Wp.rg (Ops.sg 4 4 (Ops.dn (seqQ.n ?_))))))
     have J5j811 : ∀ (v809 v810 : Int) , f5_j2 m v791 v792 v793 v795 v805 v807 v809 v810 = some sx803 → (seqQ (X5 n) p5_13 (blkQ (X5 n) 7 k5_2 29 (seqQ (X5 n) p5_10 (lpQ (X5 n) k5_2 25 p5_9 nx798 (blkQ (X5 n) 6 k5_0 25 (seqQ (X5 n) p5_8 (blkQ (X5 n) 3 k5_0 16 (seqQ (X5 n) p5_4 (lpQ (X5 n) k5_0 12 p5_3 nx729 (blkQ (X5 n) 2 k5_1 12 (blkQ (X5 n) 1 k5_1 11 (seqQ (X5 n) p5_2 (lpQ (X5 n) k5_1 7 p5_1 nx547 (blkQ (X5 n) 0 [2, 3, 7] 7 (seqQ (X5 n) p5_0 (fnQ (X5 n).E.T (resOf Proofs.Tryz.prog 5) (.tuple [e29 o.1, e31 o.2]))))))))))))))))) .normal ⟨Zs0 v2 (a0.fClasses.length : Int) ((dI v542)::q3 ((appD 34 (List.map eI y761.1))::q5 ((appD 21 (List.map eI v763.1))::q1 ((dI v764)::(dI (mX y761.1 v763.1))::q3 ((.ptr 29 0)::q19 ((dP e55 a0.fClasses)::(dI (a0.fClasses.length : Int))::(dI v542)::q5 ((dP e57 v554.fItems)::(dI (v554.fItems.length : Int))::(dI v724)::q40 (q8 ((dI (mX y761.1 v763.1))::(dI v793)::q40 (q26 [])))))))))), [(b5_0 a0), b5_1, b5_2, (b5_3 v1), .dead, .dead, (.cells [(dI v809), (rowF .nil 35 (List.map e61 v795)), (.v (.sl .nonfull (List.map e52 ([(⟨(a0.fClasses.length : Int), 0⟩ : S52)]))))]), .dead, .dead, .dead, .dead, (b5_4 v554), .dead, .dead, .dead, .dead, (b5_5 v736), .dead, (b5_6 v737), .dead, .dead, (appO 1 (List.map eI v763.1)), (b5_6 v763), .dead, .dead, .dead, .dead, .dead, .dead, (b5_7 v791 v810 v805 v807 v792), .dead, .dead, .dead, .dead, (appO 1 (List.map eI y761.1)), (rowO 5 (List.map e61 v795))]⟩ := by
      intro v809 v810  h
      unfold f5_j2 at h
      refine seqQ.n (Wp.sq (Wp.rg (Ops.sg 4 4 ?_)))
      obtain ⟨v812, ev812, h⟩ := bnd_some h
      refine Ops.on 5 (fun h0 e0 => (row_app (T := T) (g := .nil) h0 27 62 35 ti62 .nonfull e61 v795 ([(⟨v791, v810, v805, v807, v792⟩ : S61)]) v812 ev812 (by kernel_rfl) (by kernel_rfl) (by kernel_rfl) (by kernel_rfl) (fun _ => rfl) (hq_of e0 (by kernel_rfl)))) ?_
      refine Ops.sg 1 6 ?_
      refine Ops.on 7 (fun h0 e0 => (st_l (i := ti27) (h := h0) (r := 6) (off := 1) (cs := [(dI v809), (rowF .nil 35 (List.map e61 v795)), (.v (.sl .nonfull (List.map e52 ([(⟨(a0.fClasses.length : Int), 0⟩ : S52)]))))]) (cs' := [(dI v809), (rowF .nil 36 (List.map e61 v812)), (.v (.sl .nonfull (List.map e52 ([(⟨(a0.fClasses.length : Int), 0⟩ : S52)]))))]) (x := (rowF .nil 36 (List.map e61 v812))) (hq_of (g := [(b5_0 a0), b5_1, b5_2, (b5_3 v1), .dead, .dead, (.cells [(dI v809), (rowF .nil 35 (List.map e61 v795)), (.v (.sl .nonfull (List.map e52 ([(⟨(a0.fClasses.length : Int), 0⟩ : S52)]))))]), .dead, .dead, .dead, .dead, (b5_4 v554), .dead, .dead, .dead, .dead, (b5_5 v736), .dead, (b5_6 v737), .dead, .dead, (appO 1 (List.map eI v763.1)), (b5_6 v763), .dead, .dead, .dead, .dead, .dead, .dead, (b5_7 v791 v810 v805 v807 v792), .dead, .dead, .dead, .dead, (appO 1 (List.map eI y761.1)), .dead, (rowO 5 (List.map e61 v812))]) (e0.trans (by kernel_rfl)) rfl) (by kernel_rfl) (rowF_one _ _ _) (by rfl))) ?_
      refine Ops.dn (seqQ.n (Wp.rg (Ops.sg 4 4 (Ops.dn (blkQ.n ⟨Zs0 v2 (a0.fClasses.length : Int) ((dI v542)::q3 ((appD 29 (List.map eI y761.1))::q5 ((appD 21 (List.map eI v763.1))::q1 ((dI v764)::(dI (mX y761.1 v763.1))::(dI v810)::(dI 0)::q21 ((dP e55 a0.fClasses)::(dI (a0.fClasses.length : Int))::(dI v542)::q5 ((dP e57 v554.fItems)::(dI (v554.fItems.length : Int))::(dI v724)::q40 (q8 ((dI (mX y761.1 v763.1))::(dI v793)::q40 (q26 []))))))))), [(b5_0 a0), b5_1, b5_2, (b5_3 v1), .dead, .dead, (.cells [(dI v809), (rowF .nil 30 (List.map e61 v812)), (.v (.sl .nonfull (List.map e52 ([(⟨(a0.fClasses.length : Int), 0⟩ : S52)]))))]), .dead, .dead, .dead, .dead, (b5_4 v554), .dead, .dead, .dead, .dead, (b5_5 v736), .dead, (b5_6 v737), .dead, .dead, (appO 1 (List.map eI v763.1)), (b5_6 v763), .dead, .dead, .dead, .dead, .dead, .dead, (appO 1 (List.map eI y761.1)), (rowO 5 (List.map e61 v812))]⟩ (by generalize y761.1 = z0; generalize v763.1 = z1; generalize v812 = z2; cases z0 <;> cases z1 <;> cases z2 <;> (as_aux_lemma => kernel_rfl)) (seqQ.n (Wp.rg (Ops.sg 2 2 (Ops.dn (lpQ.n ⟨Zs0 v2 (a0.fClasses.length : Int) ((dI v542)::q3 ((appD 25 (List.map eI y761.1))::q5 ((appD 21 (List.map eI v763.1))::q1 ((dI v764)::(dI (mX y761.1 v763.1))::(dI v810)::(dI 0)::q21 ((dP e55 a0.fClasses)::(dI (a0.fClasses.length : Int))::(dI v542)::q5 ((dP e57 v554.fItems)::(dI (v554.fItems.length : Int))::(dI v724)::q40 (q8 ((dI (mX y761.1 v763.1))::(dI (w64 (v793 + 1)))::q40 (q26 []))))))))), [(b5_0 a0), b5_1, b5_2, (b5_3 v1), .dead, .dead, (.cells [(dI v809), (rowF .nil 26 (List.map e61 v812)), (.v (.sl .nonfull (List.map e52 ([(⟨(a0.fClasses.length : Int), 0⟩ : S52)]))))]), .dead, .dead, .dead, .dead, (b5_4 v554), .dead, .dead, .dead, .dead, (b5_5 v736), .dead, (b5_6 v737), .dead, .dead, (appO 1 (List.map eI v763.1)), (b5_6 v763), .dead, .dead, (appO 1 (List.map eI y761.1)), (rowO 5 (List.map e61 v812))]⟩ (by generalize y761.1 = z0; generalize v763.1 = z1; generalize v812 = z2; cases z0 <;> cases z1 <;> cases z2 <;> (as_aux_lemma => kernel_rfl)) ?_))))))))))
      cases h
      exact ihx799 v810 0 (w64 (v793 + 1)) v809 v812  _ hsx804 _ (by omega) hrx800 hxx801
     refine Wp.cd h [2, 3, 5, 6, 7, 8, 12, 18, 20, 21, 25, 45, 46, 47, 53, 54, 55, 104, 105] 34 (fun h => ?_) (fun h => ?_)
     ·refine Wp.sq (Wp.rg (Ops.sg 4 4 (Ops.dn (seqQ.n (Wp.rg (Ops.sg 5 5 (Ops.dn (sqQ.n ⟨Zs0 v2 (a0.fClasses.length : Int) ((dI v542)::q3 ((appD 34 (List.map eI y761.1))::q5 ((appD 21 (List.map eI v763.1))::q1 ((dI v764)::(dI (mX y761.1 v763.1))::q3 ((.ptr 29 0)::q19 ((dP e55 a0.fClasses)::(dI (a0.fClasses.length : Int))::(dI v542)::q5 ((dP e57 v554.fItems)::(dI (v554.fItems.length : Int))::(dI v724)::q40 (q8 ((dI (mX y761.1 v763.1))::(dI v793)::q40 (q26 [])))))))))), [(b5_0 a0), b5_1, b5_2, (b5_3 v1), .dead, .dead, (.cells [(dI (w64 (v794 + 1))), (rowF .nil 35 (List.map e61 v795)), (.v (.sl .nonfull (List.map e52 ([(⟨(a0.fClasses.length : Int), 0⟩ : S52)]))))]), .dead, .dead, .dead, .dead, (b5_4 v554), .dead, .dead, .dead, .dead, (b5_5 v736), .dead, (b5_6 v737), .dead, .dead, (appO 1 (List.map eI v763.1)), (b5_6 v763), .dead, .dead, .dead, .dead, .dead, .dead, (b5_7 v791 v794 v805 v807 v792), .dead, .dead, .dead, .dead, (appO 1 (List.map eI y761.1)), (rowO 5 (List.map e61 v795))]⟩ (by generalize y761.1 = z0; generalize v763.1 = z1; generalize v795 = z2; cases z0 <;> cases z1 <;> cases z2 <;> (as_aux_lemma => kernel_rfl)) ?_))))))))
      exact J5j811 (w64 (v794 + 1)) v794  h
     ·refine Wp.sk (sqQ.n ⟨Zs0 v2 (a0.fClasses.length : Int) ((dI v542)::q3 ((appD 34 (List.map eI y761.1))::q5 ((appD 21 (List.map eI v763.1))::q1 ((dI v764)::(dI (mX y761.1 v763.1))::q3 ((.ptr 29 0)::q19 ((dP e55 a0.fClasses)::(dI (a0.fClasses.length : Int))::(dI v542)::q5 ((dP e57 v554.fItems)::(dI (v554.fItems.length : Int))::(dI v724)::q40 (q8 ((dI (mX y761.1 v763.1))::(dI v793)::q40 (q26 [])))))))))), [(b5_0 a0), b5_1, b5_2, (b5_3 v1), .dead, .dead, (.cells [(dI v794), (rowF .nil 35 (List.map e61 v795)), (.v (.sl .nonfull (List.map e52 ([(⟨(a0.fClasses.length : Int), 0⟩ : S52)]))))]), .dead, .dead, .dead, .dead, (b5_4 v554), .dead, .dead, .dead, .dead, (b5_5 v736), .dead, (b5_6 v737), .dead, .dead, (appO 1 (List.map eI v763.1)), (b5_6 v763), .dead, .dead, .dead, .dead, .dead, .dead, (b5_7 v791 v764 v805 v807 v792), .dead, .dead, .dead, .dead, (appO 1 (List.map eI y761.1)), (rowO 5 (List.map e61 v795))]⟩ (by generalize y761.1 = z0; generalize v763.1 = z1; generalize v795 = z2; cases z0 <;> cases z1 <;> cases z2 <;> (as_aux_lemma => kernel_rfl)) ?_)
      exact J5j811 v794 v764  h
    refine Wp.cd h k5_3 32 (fun h => ?_) (fun h => ?_)
    ·refine Wp.rg (Ops.sg 2 2 ?_)
     obtain ⟨v813, ev813, h⟩ := bnd_some h
     refine Ops.on 3 (fun h0 e0 => (ix_a (T := T) (g := .nil) h0 25 3 1 21 eI v763.1 v793 v813 ev813 (by kernel_rfl) (by kernel_rfl) (fun _ => rfl))) ?_
     refine Ops.sg 3 6 (Ops.dn (sqQ.n ⟨Zs0 v2 (a0.fClasses.length : Int) ((dI v542)::q3 ((appD 32 (List.map eI y761.1))::q5 ((appD 21 (List.map eI v763.1))::q1 ((dI v764)::(dI (mX y761.1 v763.1))::q2 ((dI v793)::(.ptr 29 0)::q19 ((dP e55 a0.fClasses)::(dI (a0.fClasses.length : Int))::(dI v542)::q5 ((dP e57 v554.fItems)::(dI (v554.fItems.length : Int))::(dI v724)::q40 (q8 ((dI (mX y761.1 v763.1))::(dI v793)::q40 (q26 [])))))))))), [(b5_0 a0), b5_1, b5_2, (b5_3 v1), .dead, .dead, (.cells [(dI v794), (rowF .nil 33 (List.map e61 v795)), (.v (.sl .nonfull (List.map e52 ([(⟨(a0.fClasses.length : Int), 0⟩ : S52)]))))]), .dead, .dead, .dead, .dead, (b5_4 v554), .dead, .dead, .dead, .dead, (b5_5 v736), .dead, (b5_6 v737), .dead, .dead, (appO 1 (List.map eI v763.1)), (b5_6 v763), .dead, .dead, .dead, .dead, .dead, .dead, (b5_7 v791 v764 v805 v813 v792), .dead, .dead, (appO 1 (List.map eI y761.1)), (rowO 5 (List.map e61 v795))]⟩ (by generalize y761.1 = z0; generalize v763.1 = z1; generalize v795 = z2; cases z0 <;> cases z1 <;> cases z2 <;> (as_aux_lemma => kernel_rfl)) ?_))
     exact J5j808 v813  h
    ·refine Wp.sk (sqQ.n ⟨Zs0 v2 (a0.fClasses.length : Int) ((dI v542)::q3 ((appD 32 (List.map eI y761.1))::q5 ((appD 21 (List.map eI v763.1))::q1 ((dI v764)::(dI (mX y761.1 v763.1))::q2 ((dI v793)::(.ptr 29 0)::q19 ((dP e55 a0.fClasses)::(dI (a0.fClasses.length : Int))::(dI v542)::q5 ((dP e57 v554.fItems)::(dI (v554.fItems.length : Int))::(dI v724)::q40 (q8 ((dI (mX y761.1 v763.1))::(dI v793)::q40 (q26 [])))))))))), [(b5_0 a0), b5_1, b5_2, (b5_3 v1), .dead, .dead, (.cells [(dI v794), (rowF .nil 33 (List.map e61 v795)), (.v (.sl .nonfull (List.map e52 ([(⟨(a0.fClasses.length : Int), 0⟩ : S52)]))))]), .dead, .dead, .dead, .dead, (b5_4 v554), .dead, .dead, .dead, .dead, (b5_5 v736), .dead, (b5_6 v737), .dead, .dead, (appO 1 (List.map eI v763.1)), (b5_6 v763), .dead, .dead, .dead, .dead, .dead, .dead, (.cells [(dI v791), (dI v764), (dI v805), (dI 0), (dI v792)]), .dead, .dead, (appO 1 (List.map eI y761.1)), (rowO 5 (List.map e61 v795))]⟩ (by generalize y761.1 = z0; generalize v763.1 = z1; generalize v795 = z2; cases z0 <;> cases z1 <;> cases z2 <;> (as_aux_lemma => kernel_rfl)) ?_)
     exact J5j808 0  h
   refine Wp.cd h k5_3 30 (fun h => ?_) (fun h => ?_)
   ·refine Wp.rg (Ops.sg 2 2 ?_)
    obtain ⟨v814, ev814, h⟩ := bnd_some h
    refine Ops.on 3 (fun h0 e0 => (ix_a (T := T) (g := .nil) h0 25 3 1 27 eI y761.1 v793 v814 ev814 (by kernel_rfl) (by kernel_rfl) (fun _ => rfl))) ?_
    refine Ops.sg 3 6 (Ops.dn (sqQ.n ⟨Zs0 v2 (a0.fClasses.length : Int) ((dI v542)::q3 ((appD 30 (List.map eI y761.1))::q5 ((appD 21 (List.map eI v763.1))::q1 ((dI v764)::(dI (mX y761.1 v763.1))::q2 ((dI v793)::(.ptr 29 0)::q19 ((dP e55 a0.fClasses)::(dI (a0.fClasses.length : Int))::(dI v542)::q5 ((dP e57 v554.fItems)::(dI (v554.fItems.length : Int))::(dI v724)::q40 (q8 ((dI (mX y761.1 v763.1))::(dI v793)::q40 (q26 [])))))))))), [(b5_0 a0), b5_1, b5_2, (b5_3 v1), .dead, .dead, (.cells [(dI v794), (rowF .nil 31 (List.map e61 v795)), (.v (.sl .nonfull (List.map e52 ([(⟨(a0.fClasses.length : Int), 0⟩ : S52)]))))]), .dead, .dead, .dead, .dead, (b5_4 v554), .dead, .dead, .dead, .dead, (b5_5 v736), .dead, (b5_6 v737), .dead, .dead, (appO 1 (List.map eI v763.1)), (b5_6 v763), .dead, .dead, .dead, .dead, .dead, .dead, (.cells [(dI v791), (dI v764), (dI v814), (dI 0), (dI v792)]), (appO 1 (List.map eI y761.1)), (rowO 5 (List.map e61 v795))]⟩ (by generalize y761.1 = z0; generalize v763.1 = z1; generalize v795 = z2; cases z0 <;> cases z1 <;> cases z2 <;> (as_aux_lemma => kernel_rfl)) ?_))
    exact J5j806 v814  h
   ·refine Wp.sk (sqQ.n ⟨Zs0 v2 (a0.fClasses.length : Int) ((dI v542)::q3 ((appD 30 (List.map eI y761.1))::q5 ((appD 21 (List.map eI v763.1))::q1 ((dI v764)::(dI (mX y761.1 v763.1))::q2 ((dI v793)::(.ptr 29 0)::q19 ((dP e55 a0.fClasses)::(dI (a0.fClasses.length : Int))::(dI v542)::q5 ((dP e57 v554.fItems)::(dI (v554.fItems.length : Int))::(dI v724)::q40 (q8 ((dI (mX y761.1 v763.1))::(dI v793)::q40 (q26 [])))))))))), [(b5_0 a0), b5_1, b5_2, (b5_3 v1), .dead, .dead, (.cells [(dI v794), (rowF .nil 31 (List.map e61 v795)), (.v (.sl .nonfull (List.map e52 ([(⟨(a0.fClasses.length : Int), 0⟩ : S52)]))))]), .dead, .dead, .dead, .dead, (b5_4 v554), .dead, .dead, .dead, .dead, (b5_5 v736), .dead, (b5_6 v737), .dead, .dead, (appO 1 (List.map eI v763.1)), (b5_6 v763), .dead, .dead, .dead, .dead, .dead, .dead, (.cells [(dI v791), (dI v764), (dI 0), (dI 0), (dI v792)]), (appO 1 (List.map eI y761.1)), (rowO 5 (List.map e61 v795))]⟩ (by generalize y761.1 = z0; generalize v763.1 = z1; generalize v795 = z2; cases z0 <;> cases z1 <;> cases z2 <;> (as_aux_lemma => kernel_rfl)) ?_)
    exact J5j806 0  h
  ·refine Wp.ex 6 (sqQ.x (seqQ.x ?_))
   cases h
   refine lpQ.x (blkQ.x ⟨Zs0 v2 (a0.fClasses.length : Int) ((dI v542)::q36 ((dP e55 a0.fClasses)::(dI (a0.fClasses.length : Int))::(dI v542)::q5 ((dP e57 v554.fItems)::(dI (v554.fItems.length : Int))::(dI v724)::q40 (q40 (q36 []))))), [(b5_0 a0), b5_1, b5_2, (b5_3 v1), .dead, .dead, (.cells [(dI v794), (rowF .nil 26 (List.map e61 v795)), (.v (.sl .nonfull (List.map e52 ([(⟨(a0.fClasses.length : Int), 0⟩ : S52)]))))]), .dead, .dead, .dead, .dead, (b5_4 v554), .dead, .dead, .dead, .dead, (b5_5 v736), .dead, (b5_6 v737), .dead, .dead, (appO 1 (List.map eI v763.1)), (b5_6 v763), .dead, .dead, (appO 1 (List.map eI y761.1)), (rowO 5 (List.map e61 v795))]⟩ (by generalize y761.1 = z0; generalize v763.1 = z1; generalize v795 = z2; cases z0 <;> cases z1 <;> cases z2 <;> (as_aux_lemma => kernel_rfl)) ?_)
   exact hxx801 (v791, v792, v793, v794, v795)  hsx804
theorem f5_hLx760 (m : Nat) (a0 : S23) (o : (S29 × S31)) (n : Nat) (hn : m + 6 ≤ n + 1) (v2 : (List ByteArray)) (v736 : S57) (nx729 nx547 : Nat) (v542 : Int) (v554 : S55) (v724 : Int) (v1 : S31) (v725 : Int) (v726 : (List S61)) (v737 : ((List Int) × S31)) : ∀ (kx749 : Nat) (v746 : (List Int)) (v747 : Int)  (ox748 : (S29 × S31) ⊕ ((List Int) × Int)), iter (fun (y : (List Int) × Int) => f5_B1 m v2 v736 y.1 y.2) kx749 (v746, v747) = some ox748 → ∀ nx750, kx749 ≤ nx750 → (∀ r, ox748 = .inl r → ∀ σ, RetOk (X5 n) (resOf Proofs.Tryz.prog 5) (.tuple [e29 r.1, e31 r.2]) σ → (seqQ (X5 n) p5_5 (blkQ (X5 n) 3 k5_0 16 (seqQ (X5 n) p5_4 (lpQ (X5 n) k5_0 12 p5_3 nx729 (blkQ (X5 n) 2 k5_1 12 (blkQ (X5 n) 1 k5_1 11 (seqQ (X5 n) p5_2 (lpQ (X5 n) k5_1 7 p5_1 nx547 (blkQ (X5 n) 0 [2, 3, 7] 7 (seqQ (X5 n) p5_0 (fnQ (X5 n).E.T (resOf Proofs.Tryz.prog 5) (.tuple [e29 o.1, e31 o.2])))))))))))) .ret σ) → (∀ (y : (List Int) × Int) , ox748 = .inr y → (seqQ (X5 n) p5_5 (blkQ (X5 n) 3 k5_0 16 (seqQ (X5 n) p5_4 (lpQ (X5 n) k5_0 12 p5_3 nx729 (blkQ (X5 n) 2 k5_1 12 (blkQ (X5 n) 1 k5_1 11 (seqQ (X5 n) p5_2 (lpQ (X5 n) k5_1 7 p5_1 nx547 (blkQ (X5 n) 0 [2, 3, 7] 7 (seqQ (X5 n) p5_0 (fnQ (X5 n).E.T (resOf Proofs.Tryz.prog 5) (.tuple [e29 o.1, e31 o.2])))))))))))) .normal ⟨Zs0 v2 (a0.fClasses.length : Int) ((dI v542)::q2 ((.ptr 16 0)::(appD 19 (List.map eI y.1))::q32 ((dP e55 a0.fClasses)::(dI (a0.fClasses.length : Int))::(dI v542)::q5 ((dP e57 v554.fItems)::(dI (v554.fItems.length : Int))::(dI v724)::q40 (q40 (q36 [])))))), [(b5_0 a0), b5_1, b5_2, (b5_3 v1), .dead, .dead, (.cells [(dI v725), (rowF .nil 20 (List.map e61 v726)), (.v (.sl .nonfull (List.map e52 ([(⟨(a0.fClasses.length : Int), 0⟩ : S52)]))))]), .dead, .dead, .dead, .dead, (b5_4 v554), .dead, .dead, .dead, .dead, (b5_5 v736), .dead, (b5_6 v737), (appO 1 (List.map eI y.1)), (rowO 5 (List.map e61 v726))]⟩) → Lp (X5 n) k5_4 19 p5_6 nx750 ⟨Zs0 v2 (a0.fClasses.length : Int) ((dI v542)::q2 ((.ptr 16 0)::(appD 19 (List.map eI v746))::q32 ((dP e55 a0.fClasses)::(dI (a0.fClasses.length : Int))::(dI v542)::q5 ((dP e57 v554.fItems)::(dI (v554.fItems.length : Int))::(dI v724)::q10 ((dP eS v736.fTags)::(dI (v736.fTags.length : Int))::(dI v747)::q40 (q40 (q23 []))))))), [(b5_0 a0), b5_1, b5_2, (b5_3 v1), .dead, .dead, (.cells [(dI v725), (rowF .nil 20 (List.map e61 v726)), (.v (.sl .nonfull (List.map e52 ([(⟨(a0.fClasses.length : Int), 0⟩ : S52)]))))]), .dead, .dead, .dead, .dead, (b5_4 v554), .dead, .dead, .dead, .dead, (b5_5 v736), .dead, (b5_6 v737), (appO 1 (List.map eI v746)), (rowO 5 (List.map e61 v726))]⟩ (blkQ (X5 n) 4 [2, 3, 5, 6, 7, 8, 11, 12, 45, 46, 47, 53, 54, 55] 19 (seqQ (X5 n) p5_5 (blkQ (X5 n) 3 k5_0 16 (seqQ (X5 n) p5_4 (lpQ (X5 n) k5_0 12 p5_3 nx729 (blkQ (X5 n) 2 k5_1 12 (blkQ (X5 n) 1 k5_1 11 (seqQ (X5 n) p5_2 (lpQ (X5 n) k5_1 7 p5_1 nx547 (blkQ (X5 n) 0 [2, 3, 7] 7 (seqQ (X5 n) p5_0 (fnQ (X5 n).E.T (resOf Proofs.Tryz.prog 5) (.tuple [e29 o.1, e31 o.2]))))))))))))) := by
 intro kx749
 induction kx749 with
 | zero => intro v746 v747  ox748 h; exact (iter_zero h).elim
 | succ kx749 ihx751 =>
  intro v746 v747  ox748 h nx750 hnx754 hrx752 hxx753
  obtain ⟨nx750, rfl⟩ : ∃ q, nx750 = q + 1 := ⟨nx750 - 1, by omega⟩
  obtain ⟨sx755, h, hsx756⟩ := iter_some h
  have h : f5_B1 m v2 v736 v746 v747 = some sx755 := h
  unfold f5_B1 at h
  refine Lp.succ (Wp.sq (Wp.rg (Ops.sg 1 1 (Ops.dn (seqQ.n (Wp.sq ?_))))))
  refine Wp.cd h k5_4 21 (fun h => ?_) (fun h => ?_)
  ·refine Wp.sk (sqQ.n ⟨Zs0 v2 (a0.fClasses.length : Int) ((dI v542)::q2 ((.ptr 16 0)::(appD 21 (List.map eI v746))::q32 ((dP e55 a0.fClasses)::(dI (a0.fClasses.length : Int))::(dI v542)::q5 ((dP e57 v554.fItems)::(dI (v554.fItems.length : Int))::(dI v724)::q10 ((dP eS v736.fTags)::(dI (v736.fTags.length : Int))::(dI v747)::q40 (q40 (q23 []))))))), [(b5_0 a0), b5_1, b5_2, (b5_3 v1), .dead, .dead, (.cells [(dI v725), (rowF .nil 22 (List.map e61 v726)), (.v (.sl .nonfull (List.map e52 ([(⟨(a0.fClasses.length : Int), 0⟩ : S52)]))))]), .dead, .dead, .dead, .dead, (b5_4 v554), .dead, .dead, .dead, .dead, (b5_5 v736), .dead, (b5_6 v737), .dead, .dead, (appO 1 (List.map eI v746)), (rowO 5 (List.map e61 v726))]⟩ (by generalize v746 = z0; generalize v726 = z1; cases z0 <;> cases z1 <;> (as_aux_lemma => kernel_rfl)) (seqQ.n (Wp.sq (Wp.bk 5 k5_4 23 (Wp.sq (Wp.rg ?_))))))
   obtain ⟨v757, ev757, h⟩ := bnd_some h
   refine Ops.on 1 (fun h0 e0 => (ix_r (T := T) h0 39 9 1 .plain eS v736.fTags v747 v757 ev757 (by kernel_rfl) (by kernel_rfl) (fun _ => rfl))) ?_
   refine Ops.sg 2 3 (Ops.dn (seqQ.n (Wp.sq (Wp.rg (Ops.sg 2 2 ?_)))))
   obtain ⟨v758, ev758, h⟩ := bnd_some h
   refine Ops.on 3 (fun h0 e0 => (call_ok (E' := EG) (h := h0) (by kernel_rfl) (Args.v (vP eS v2) ((eL eS) v2) (by kernel_rfl) (Args.v (.str v757) (eS v757) (by kernel_rfl) Args.nil)) (ok17 m v2 v757 v758 ev758 n (by omega)))) ?_
   refine Ops.sg 5 8 (Ops.dn (seqQ.n (Wp.rg (Ops.sg 4 4 ?_))))
   obtain ⟨v759, ev759, h⟩ := bnd_some h
   refine Ops.on 5 (fun h0 e0 => (app_r (T := T) (g := .nil) h0 25 3 21 1 ti3 .nonfull eI v746 ([w64 (983040 + v758.1)]) v759 ev759 (by kernel_rfl) (by kernel_rfl) (by kernel_rfl) (by kernel_rfl) (fun _ => rfl) (hq_of e0 (by kernel_rfl)))) ?_
   refine Ops.sg 1 6 (Ops.dn (blkQ.n ⟨Zs0 v2 (a0.fClasses.length : Int) ((dI v542)::q2 ((.ptr 16 0)::(appD 23 (List.map eI v759))::q32 ((dP e55 a0.fClasses)::(dI (a0.fClasses.length : Int))::(dI v542)::q5 ((dP e57 v554.fItems)::(dI (v554.fItems.length : Int))::(dI v724)::q10 ((dP eS v736.fTags)::(dI (v736.fTags.length : Int))::(dI v747)::q40 (q40 (q23 []))))))), [(b5_0 a0), b5_1, b5_2, (b5_3 v1), .dead, .dead, (.cells [(dI v725), (rowF .nil 24 (List.map e61 v726)), (.v (.sl .nonfull (List.map e52 ([(⟨(a0.fClasses.length : Int), 0⟩ : S52)]))))]), .dead, .dead, .dead, .dead, (b5_4 v554), .dead, .dead, .dead, .dead, (b5_5 v736), .dead, (b5_6 v737), .dead, .dead, .dead, .dead, (appO 1 (List.map eI v759)), (rowO 5 (List.map e61 v726))]⟩ (by generalize v759 = z0; generalize v726 = z1; cases z0 <;> cases z1 <;> (as_aux_lemma => kernel_rfl)) (seqQ.n (Wp.rg (Ops.sg 2 2 (Ops.dn (lpQ.n ⟨Zs0 v2 (a0.fClasses.length : Int) ((dI v542)::q2 ((.ptr 16 0)::(appD 19 (List.map eI v759))::q32 ((dP e55 a0.fClasses)::(dI (a0.fClasses.length : Int))::(dI v542)::q5 ((dP e57 v554.fItems)::(dI (v554.fItems.length : Int))::(dI v724)::q10 ((dP eS v736.fTags)::(dI (v736.fTags.length : Int))::(dI (w64 (v747 + 1)))::q40 (q40 (q23 []))))))), [(b5_0 a0), b5_1, b5_2, (b5_3 v1), .dead, .dead, (.cells [(dI v725), (rowF .nil 20 (List.map e61 v726)), (.v (.sl .nonfull (List.map e52 ([(⟨(a0.fClasses.length : Int), 0⟩ : S52)]))))]), .dead, .dead, .dead, .dead, (b5_4 v554), .dead, .dead, .dead, .dead, (b5_5 v736), .dead, (b5_6 v737), (appO 1 (List.map eI v759)), (rowO 5 (List.map e61 v726))]⟩ (by generalize v759 = z0; generalize v726 = z1; cases z0 <;> cases z1 <;> (as_aux_lemma => kernel_rfl)) ?_)))))))
   cases h
   exact ihx751 v759 (w64 (v747 + 1))  _ hsx756 _ (by omega) hrx752 hxx753
  ·refine Wp.ex 4 (sqQ.x (seqQ.x ?_))
   cases h
   refine lpQ.x (blkQ.x ⟨Zs0 v2 (a0.fClasses.length : Int) ((dI v542)::q2 ((.ptr 16 0)::(appD 19 (List.map eI v746))::q32 ((dP e55 a0.fClasses)::(dI (a0.fClasses.length : Int))::(dI v542)::q5 ((dP e57 v554.fItems)::(dI (v554.fItems.length : Int))::(dI v724)::q40 (q40 (q36 [])))))), [(b5_0 a0), b5_1, b5_2, (b5_3 v1), .dead, .dead, (.cells [(dI v725), (rowF .nil 20 (List.map e61 v726)), (.v (.sl .nonfull (List.map e52 ([(⟨(a0.fClasses.length : Int), 0⟩ : S52)]))))]), .dead, .dead, .dead, .dead, (b5_4 v554), .dead, .dead, .dead, .dead, (b5_5 v736), .dead, (b5_6 v737), (appO 1 (List.map eI v746)), (rowO 5 (List.map e61 v726))]⟩ (by generalize v746 = z0; generalize v726 = z1; cases z0 <;> cases z1 <;> (as_aux_lemma => kernel_rfl)) ?_)
   exact hxx753 (v746, v747)  hsx756
theorem f5_hLx819 (m : Nat) (a0 : S23) (o : (S29 × S31)) (n : Nat) (hn : m + 6 ≤ n + 1) (v2 : (List ByteArray)) (v542 : Int) (v554 : S55) (nx547 : Nat) (v1 : S31) : ∀ (kx728 : Nat) (v724 v725 : Int) (v726 : (List S61))  (ox727 : (S29 × S31) ⊕ (Int × Int × (List S61))), iter (fun (y : Int × Int × (List S61)) => f5_B7 m a0 v2 v542 v554 y.1 y.2.1 y.2.2) kx728 (v724, v725, v726) = some ox727 → ∀ nx729, kx728 ≤ nx729 → (∀ r, ox727 = .inl r → ∀ σ, RetOk (X5 n) (resOf Proofs.Tryz.prog 5) (.tuple [e29 r.1, e31 r.2]) σ → (blkQ (X5 n) 1 k5_1 11 (seqQ (X5 n) p5_2 (lpQ (X5 n) k5_1 7 p5_1 nx547 (blkQ (X5 n) 0 [2, 3, 7] 7 (seqQ (X5 n) p5_0 (fnQ (X5 n).E.T (resOf Proofs.Tryz.prog 5) (.tuple [e29 o.1, e31 o.2]))))))) .ret σ) → (∀ (y : Int × Int × (List S61)) , ox727 = .inr y → (blkQ (X5 n) 1 k5_1 11 (seqQ (X5 n) p5_2 (lpQ (X5 n) k5_1 7 p5_1 nx547 (blkQ (X5 n) 0 [2, 3, 7] 7 (seqQ (X5 n) p5_0 (fnQ (X5 n).E.T (resOf Proofs.Tryz.prog 5) (.tuple [e29 o.1, e31 o.2]))))))) .normal ⟨Zs0 v2 (a0.fClasses.length : Int) (q37 ((dP e55 a0.fClasses)::(dI (a0.fClasses.length : Int))::(dI v542)::q40 (q40 (q40 (q4 []))))), [(b5_0 a0), b5_1, b5_2, (b5_3 v1), .dead, .dead, (.cells [(dI y.2.1), (rowF .nil 13 (List.map e61 y.2.2)), (.v (.sl .nonfull (List.map e52 ([(⟨(a0.fClasses.length : Int), 0⟩ : S52)]))))]), .dead, .dead, .dead, .dead, (b5_4 v554), .dead, (rowO 5 (List.map e61 y.2.2))]⟩) → Lp (X5 n) k5_0 12 p5_3 nx729 ⟨Zs0 v2 (a0.fClasses.length : Int) ((dI v542)::q36 ((dP e55 a0.fClasses)::(dI (a0.fClasses.length : Int))::(dI v542)::q5 ((dP e57 v554.fItems)::(dI (v554.fItems.length : Int))::(dI v724)::q40 (q40 (q36 []))))), [(b5_0 a0), b5_1, b5_2, (b5_3 v1), .dead, .dead, (.cells [(dI v725), (rowF .nil 13 (List.map e61 v726)), (.v (.sl .nonfull (List.map e52 ([(⟨(a0.fClasses.length : Int), 0⟩ : S52)]))))]), .dead, .dead, .dead, .dead, (b5_4 v554), .dead, (rowO 5 (List.map e61 v726))]⟩ (blkQ (X5 n) 2 k5_1 12 (blkQ (X5 n) 1 k5_1 11 (seqQ (X5 n) p5_2 (lpQ (X5 n) k5_1 7 p5_1 nx547 (blkQ (X5 n) 0 [2, 3, 7] 7 (seqQ (X5 n) p5_0 (fnQ (X5 n).E.T (resOf Proofs.Tryz.prog 5) (.tuple [e29 o.1, e31 o.2])))))))) := by
 intro kx728
 induction kx728 with
 | zero => intro v724 v725 v726  ox727 h; exact (iter_zero h).elim
 | succ kx728 ihx730 =>
  intro v724 v725 v726  ox727 h nx729 hnx733 hrx731 hxx732
  obtain ⟨nx729, rfl⟩ : ∃ q, nx729 = q + 1 := ⟨nx729 - 1, by omega⟩
  obtain ⟨sx734, h, hsx735⟩ := iter_some h
  have h : f5_B7 m a0 v2 v542 v554 v724 v725 v726 = some sx734 := h
  unfold f5_B7 at h
  refine Lp.succ (Wp.sq (Wp.rg (Ops.sg 1 1 (Ops.dn (seqQ.n (Wp.sq ?_))))))
  refine Wp.cd h k5_0 14 (fun h => ?_) (fun h => ?_)
  ·refine Wp.sk (sqQ.n ⟨Zs0 v2 (a0.fClasses.length : Int) ((dI v542)::q36 ((dP e55 a0.fClasses)::(dI (a0.fClasses.length : Int))::(dI v542)::q5 ((dP e57 v554.fItems)::(dI (v554.fItems.length : Int))::(dI v724)::q40 (q40 (q36 []))))), [(b5_0 a0), b5_1, b5_2, (b5_3 v1), .dead, .dead, (.cells [(dI v725), (rowF .nil 15 (List.map e61 v726)), (.v (.sl .nonfull (List.map e52 ([(⟨(a0.fClasses.length : Int), 0⟩ : S52)]))))]), .dead, .dead, .dead, .dead, (b5_4 v554), .dead, .dead, .dead, (rowO 5 (List.map e61 v726))]⟩ (by generalize v726 = z0; cases z0 <;> kernel_rfl) (seqQ.n (Wp.sq (Wp.bk 3 k5_0 16 (Wp.sq (Wp.rg ?_))))))
   obtain ⟨v736, ev736, h⟩ := bnd_some h
   refine Ops.on 1 (fun h0 e0 => (ix_r (T := T) h0 54 58 5 .plain e57 v554.fItems v724 v736 ev736 (by kernel_rfl) (by kernel_rfl) (fun _ => rfl))) ?_
   refine Ops.sg 3 4 (Ops.dn (seqQ.n (Wp.sq (Wp.rg (Ops.sg 2 2 ?_)))))
   obtain ⟨v737, ev737, h⟩ := bnd_some h
   refine Ops.on 3 (fun h0 e0 => (call_keep (E' := EG) (h := h0) (by kernel_rfl) (by kernel_rfl) (by kernel_rfl) (ArgsC.cons (.v (.str v736.fBase)) (.v (eS v736.fBase)) (by kernel_rfl) ArgsC.nil) (ok16g m v736.fBase v737 ev737 n (by omega)))) ?_
   refine Ops.sg 6 9 (Ops.dn (seqQ.n (Wp.sq (Wp.sq (Wp.rg (Ops.sg 2 2 ?_))))))
   refine Ops.on 3 (fun h0 e0 => (len_r (T := T) h0 39 9 .plain eS v736.fTags (by kernel_rfl))) ?_
   refine Ops.sg 1 4 (Ops.dn (seqQ.n (Wp.bk 4 [2, 3, 5, 6, 7, 8, 11, 12, 45, 46, 47, 53, 54, 55] 19 ?_)))
   have hLx760 := f5_hLx760 m a0 o n hn v2 v736 nx729 nx547 v542 v554 v724 v1 v725 v726 v737
   refine Wp.loop' k5_4 19 (by kernel_rfl) ⟨Zs0 v2 (a0.fClasses.length : Int) ((dI v542)::q2 ((.ptr 16 0)::(appD 19 (List.map eI v737.1))::q32 ((dP e55 a0.fClasses)::(dI (a0.fClasses.length : Int))::(dI v542)::q5 ((dP e57 v554.fItems)::(dI (v554.fItems.length : Int))::(dI v724)::q10 ((dP eS v736.fTags)::(dI (v736.fTags.length : Int))::(dI 0)::q40 (q40 (q23 []))))))), [(b5_0 a0), b5_1, b5_2, (b5_3 v1), .dead, .dead, (.cells [(dI v725), (rowF .nil 20 (List.map e61 v726)), (.v (.sl .nonfull (List.map e52 ([(⟨(a0.fClasses.length : Int), 0⟩ : S52)]))))]), .dead, .dead, .dead, .dead, (b5_4 v554), .dead, .dead, .dead, .dead, (b5_5 v736), .dead, (b5_6 v737), (appO 1 (List.map eI v737.1)), (rowO 5 (List.map e61 v726))]⟩ (by generalize v737.1 = z0; generalize v726 = z1; cases z0 <;> cases z1 <;> (as_aux_lemma => kernel_rfl)) ?_
   rcases brk_some h with ⟨r762, er762, h⟩ | ⟨y761, ey761, h⟩
   ·refine hLx760 _ v737.1 0  _ er762 n (by omega) (fun r er σ hσ => ?_) (fun y  ey => by cases ey)
    cases er
    refine seqQ.r (blkQ.r (seqQ.r (lpQ.r ?_)))
    cases h
    refine blkQ.r ?_
    exact hrx731 _ hsx735 _ (RetOk.forget k5_0 (by kernel_rfl) hσ)
   ·refine hLx760 _ v737.1 0  _ ey761 n (by omega) (fun r er => by cases er) (fun y  ey => ?_)
    cases ey
    refine seqQ.n (Wp.sq (Wp.rg (Ops.sg 2 2 ?_)))
    obtain ⟨v763, ev763, h⟩ := bnd_some h
    refine Ops.on 3 (fun h0 e0 => (call_keep (E' := EG) (h := h0) (by kernel_rfl) (by kernel_rfl) (by kernel_rfl) (ArgsC.cons (.v (.str v736.fForm)) (.v (eS v736.fForm)) (by kernel_rfl) ArgsC.nil) (ok16g m v736.fForm v763 ev763 n (by omega)))) ?_
    refine Ops.sg 6 9 (Ops.dn (seqQ.n (Wp.sq (Wp.rg (Ops.sg 2 2 (Ops.dn (seqQ.n (Wp.sq (Wp.sq (Wp.rg (Ops.sg 3 3 (Ops.dn (seqQ.n ?_)))))))))))))
    have J5j765 : ∀ (v764 : Int) , f5_j6 m v542 v724 v725 v726 v736 y761 v763 v764 = some sx734 → (seqQ (X5 n) p5_7 (blkQ (X5 n) 3 k5_0 16 (seqQ (X5 n) p5_4 (lpQ (X5 n) k5_0 12 p5_3 nx729 (blkQ (X5 n) 2 k5_1 12 (blkQ (X5 n) 1 k5_1 11 (seqQ (X5 n) p5_2 (lpQ (X5 n) k5_1 7 p5_1 nx547 (blkQ (X5 n) 0 [2, 3, 7] 7 (seqQ (X5 n) p5_0 (fnQ (X5 n).E.T (resOf Proofs.Tryz.prog 5) (.tuple [e29 o.1, e31 o.2])))))))))))) .normal ⟨Zs0 v2 (a0.fClasses.length : Int) ((dI v542)::q2 ((.ptr 16 0)::(appD 23 (List.map eI y761.1))::q5 ((appD 21 (List.map eI v763.1))::q1 ((dI v764)::q24 ((dP e55 a0.fClasses)::(dI (a0.fClasses.length : Int))::(dI v542)::q5 ((dP e57 v554.fItems)::(dI (v554.fItems.length : Int))::(dI v724)::q40 (q40 (q36 [])))))))), [(b5_0 a0), b5_1, b5_2, (b5_3 v1), .dead, .dead, (.cells [(dI v725), (rowF .nil 24 (List.map e61 v726)), (.v (.sl .nonfull (List.map e52 ([(⟨(a0.fClasses.length : Int), 0⟩ : S52)]))))]), .dead, .dead, .dead, .dead, (b5_4 v554), .dead, .dead, .dead, .dead, (b5_5 v736), .dead, (b5_6 v737), .dead, .dead, (appO 1 (List.map eI v763.1)), (b5_6 v763), (appO 1 (List.map eI y761.1)), (rowO 5 (List.map e61 v726))]⟩ := by
     intro v764  h
     unfold f5_j6 at h
     refine seqQ.n (Wp.sq (Wp.rg (Ops.sg 1 1 ?_)))
     refine Ops.on 2 (fun h0 e0 => (len_a (T := T) (g := .nil) h0 25 3 23 eI y761.1 (by kernel_rfl))) ?_
     refine Ops.sg 1 3 ?_
     refine Ops.on 4 (fun h0 e0 => (len_a (T := T) (g := .nil) h0 25 3 21 eI v763.1 (by kernel_rfl))) ?_
     refine Ops.sg 2 6 (Ops.dn (seqQ.n (Wp.sq (Wp.rg (Ops.sg 5 5 (Ops.dn (seqQ.n (Wp.sq (Wp.sq (Wp.rg (Ops.sg 2 2 (Ops.dn (seqQ.n (Wp.bk 6 k5_0 25 ?_))))))))))))))
     have hLx815 := f5_hLx815 m a0 o n hn y761 v763 v764 nx729 nx547 v2 v542 v554 v724 v1 v736 v737
     refine Wp.loop' k5_2 25 (by kernel_rfl) ⟨Zs0 v2 (a0.fClasses.length : Int) ((dI v542)::q3 ((appD 25 (List.map eI y761.1))::q5 ((appD 21 (List.map eI v763.1))::q1 ((dI v764)::(dI (mX y761.1 v763.1))::(dI v542)::(dI v736.fWeight)::q21 ((dP e55 a0.fClasses)::(dI (a0.fClasses.length : Int))::(dI v542)::q5 ((dP e57 v554.fItems)::(dI (v554.fItems.length : Int))::(dI v724)::q40 (q8 ((dI (mX y761.1 v763.1))::(dI 0)::q40 (q26 []))))))))), [(b5_0 a0), b5_1, b5_2, (b5_3 v1), .dead, .dead, (.cells [(dI v725), (rowF .nil 26 (List.map e61 v726)), (.v (.sl .nonfull (List.map e52 ([(⟨(a0.fClasses.length : Int), 0⟩ : S52)]))))]), .dead, .dead, .dead, .dead, (b5_4 v554), .dead, .dead, .dead, .dead, (b5_5 v736), .dead, (b5_6 v737), .dead, .dead, (appO 1 (List.map eI v763.1)), (b5_6 v763), .dead, .dead, (appO 1 (List.map eI y761.1)), (rowO 5 (List.map e61 v726))]⟩ (by generalize y761.1 = z0; generalize v763.1 = z1; generalize v726 = z2; cases z0 <;> cases z1 <;> cases z2 <;> (as_aux_lemma => kernel_rfl)) ?_
     rcases brk_some h with ⟨r817, er817, h⟩ | ⟨y816, ey816, h⟩
     ·refine hLx815 _ v542 v736.fWeight 0 v725 v726  _ er817 n (by omega) (fun r er σ hσ => ?_) (fun y  ey => by cases ey)
      cases er
      refine seqQ.r (blkQ.r (seqQ.r (lpQ.r ?_)))
      cases h
      refine blkQ.r ?_
      exact hrx731 _ hsx735 _ (RetOk.forget k5_0 (by kernel_rfl) hσ)
     ·refine hLx815 _ v542 v736.fWeight 0 v725 v726  _ ey816 n (by omega) (fun r er => by cases er) (fun y  ey => ?_)
      cases ey
      refine seqQ.n (Wp.sq (Wp.rg (Ops.sg 3 3 (Ops.dn (seqQ.n ?_)))))
      refine Wp.cd h k5_0 27 (fun h => ?_) (fun h => ?_)
      ·refine Wp.sq (Wp.rg (Ops.sg 1 1 ?_))
       obtain ⟨v818, ev818, h⟩ := bnd_some h
       refine Ops.on 2 (fun h0 e0 => (call_ok (E' := EG) (h := h0) (by kernel_rfl) (Args.v (vI 17) (eI 17) (by kernel_rfl) (Args.v (vI (-1)) (eI (-1)) (by kernel_rfl) Args.nil)) (ok18g m 17 (-1) v818 ev818 n (by omega)))) ?_
       refine Ops.sg 2 4 (Ops.dn (seqQ.n (Wp.rt (sqQ.r (blkQ.r (seqQ.r ?_))))))
       cases h
       refine lpQ.r (blkQ.r ?_)
       exact hrx731 _ hsx735 _ (RetOk.forget k5_0 (by kernel_rfl) (RetOk.mk' (.v (.tuple [(.agg [(vI 0), (.sl .nil (List.map e61 [])), (.sl .nil (List.map e52 []))]), (.agg [(vI v818.fCode), (vI v818.fIndex)])])) (by kernel_rfl) (by kernel_rfl)))
      ·refine Wp.sk (sqQ.n ⟨Zs0 v2 (a0.fClasses.length : Int) ((dI v542)::q36 ((dP e55 a0.fClasses)::(dI (a0.fClasses.length : Int))::(dI v542)::q5 ((dP e57 v554.fItems)::(dI (v554.fItems.length : Int))::(dI v724)::q40 (q40 (q36 []))))), [(b5_0 a0), b5_1, b5_2, (b5_3 v1), .dead, .dead, (.cells [(dI y816.2.2.2.1), (rowF .nil 28 (List.map e61 y816.2.2.2.2)), (.v (.sl .nonfull (List.map e52 ([(⟨(a0.fClasses.length : Int), 0⟩ : S52)]))))]), .dead, .dead, .dead, .dead, (b5_4 v554), .dead, .dead, .dead, .dead, (b5_5 v736), .dead, (b5_6 v737), .dead, .dead, (appO 1 (List.map eI v763.1)), (b5_6 v763), .dead, .dead, (appO 1 (List.map eI y761.1)), .dead, .dead, (rowO 5 (List.map e61 y816.2.2.2.2))]⟩ (by generalize y816.2.2.2.2 = z0; generalize v763.1 = z1; generalize y761.1 = z2; cases z0 <;> cases z1 <;> cases z2 <;> (as_aux_lemma => kernel_rfl)) (blkQ.n ⟨Zs0 v2 (a0.fClasses.length : Int) ((dI v542)::q36 ((dP e55 a0.fClasses)::(dI (a0.fClasses.length : Int))::(dI v542)::q5 ((dP e57 v554.fItems)::(dI (v554.fItems.length : Int))::(dI v724)::q40 (q40 (q36 []))))), [(b5_0 a0), b5_1, b5_2, (b5_3 v1), .dead, .dead, (.cells [(dI y816.2.2.2.1), (rowF .nil 17 (List.map e61 y816.2.2.2.2)), (.v (.sl .nonfull (List.map e52 ([(⟨(a0.fClasses.length : Int), 0⟩ : S52)]))))]), .dead, .dead, .dead, .dead, (b5_4 v554), .dead, .dead, .dead, .dead, .dead, (rowO 5 (List.map e61 y816.2.2.2.2))]⟩ (by generalize y816.2.2.2.2 = z0; cases z0 <;> kernel_rfl) (seqQ.n (Wp.rg (Ops.sg 2 2 (Ops.dn (lpQ.n ⟨Zs0 v2 (a0.fClasses.length : Int) ((dI v542)::q36 ((dP e55 a0.fClasses)::(dI (a0.fClasses.length : Int))::(dI v542)::q5 ((dP e57 v554.fItems)::(dI (v554.fItems.length : Int))::(dI (w64 (v724 + 1)))::q40 (q40 (q36 []))))), [(b5_0 a0), b5_1, b5_2, (b5_3 v1), .dead, .dead, (.cells [(dI y816.2.2.2.1), (rowF .nil 13 (List.map e61 y816.2.2.2.2)), (.v (.sl .nonfull (List.map e52 ([(⟨(a0.fClasses.length : Int), 0⟩ : S52)]))))]), .dead, .dead, .dead, .dead, (b5_4 v554), .dead, (rowO 5 (List.map e61 y816.2.2.2.2))]⟩ (by generalize y816.2.2.2.2 = z0; cases z0 <;> kernel_rfl) ?_)))))))
       cases h
       exact ihx730 (w64 (v724 + 1)) y816.2.2.2.1 y816.2.2.2.2  _ hsx735 _ (by omega) hrx731 hxx732
    refine Wp.cd h [2, 3, 5, 6, 7, 8, 11, 12, 18, 20, 45, 46, 47, 53, 54, 55] 23 (fun h => ?_) (fun h => ?_)
    ·refine Wp.rg (Ops.sg 3 3 (Ops.dn (sqQ.n ⟨Zs0 v2 (a0.fClasses.length : Int) ((dI v542)::q2 ((.ptr 16 0)::(appD 23 (List.map eI y761.1))::q5 ((appD 21 (List.map eI v763.1))::q1 ((dI v736.fNext)::q24 ((dP e55 a0.fClasses)::(dI (a0.fClasses.length : Int))::(dI v542)::q5 ((dP e57 v554.fItems)::(dI (v554.fItems.length : Int))::(dI v724)::q40 (q40 (q36 [])))))))), [(b5_0 a0), b5_1, b5_2, (b5_3 v1), .dead, .dead, (.cells [(dI v725), (rowF .nil 24 (List.map e61 v726)), (.v (.sl .nonfull (List.map e52 ([(⟨(a0.fClasses.length : Int), 0⟩ : S52)]))))]), .dead, .dead, .dead, .dead, (b5_4 v554), .dead, .dead, .dead, .dead, (b5_5 v736), .dead, (b5_6 v737), .dead, .dead, (appO 1 (List.map eI v763.1)), (b5_6 v763), (appO 1 (List.map eI y761.1)), (rowO 5 (List.map e61 v726))]⟩ (by generalize y761.1 = z0; generalize v763.1 = z1; generalize v726 = z2; cases z0 <;> cases z1 <;> cases z2 <;> (as_aux_lemma => kernel_rfl)) ?_)))
     exact J5j765 v736.fNext  h
    ·refine Wp.sk (sqQ.n ⟨Zs0 v2 (a0.fClasses.length : Int) ((dI v542)::q2 ((.ptr 16 0)::(appD 23 (List.map eI y761.1))::q5 ((appD 21 (List.map eI v763.1))::q1 ((dI (a0.fClasses.length : Int))::q24 ((dP e55 a0.fClasses)::(dI (a0.fClasses.length : Int))::(dI v542)::q5 ((dP e57 v554.fItems)::(dI (v554.fItems.length : Int))::(dI v724)::q40 (q40 (q36 [])))))))), [(b5_0 a0), b5_1, b5_2, (b5_3 v1), .dead, .dead, (.cells [(dI v725), (rowF .nil 24 (List.map e61 v726)), (.v (.sl .nonfull (List.map e52 ([(⟨(a0.fClasses.length : Int), 0⟩ : S52)]))))]), .dead, .dead, .dead, .dead, (b5_4 v554), .dead, .dead, .dead, .dead, (b5_5 v736), .dead, (b5_6 v737), .dead, .dead, (appO 1 (List.map eI v763.1)), (b5_6 v763), (appO 1 (List.map eI y761.1)), (rowO 5 (List.map e61 v726))]⟩ (by generalize y761.1 = z0; generalize v763.1 = z1; generalize v726 = z2; cases z0 <;> cases z1 <;> cases z2 <;> (as_aux_lemma => kernel_rfl)) ?_)
     exact J5j765 (a0.fClasses.length : Int)  h
  ·refine Wp.ex 2 (sqQ.x (seqQ.x ?_))
   cases h
   refine lpQ.x (blkQ.x ⟨Zs0 v2 (a0.fClasses.length : Int) (q37 ((dP e55 a0.fClasses)::(dI (a0.fClasses.length : Int))::(dI v542)::q40 (q40 (q40 (q4 []))))), [(b5_0 a0), b5_1, b5_2, (b5_3 v1), .dead, .dead, (.cells [(dI v725), (rowF .nil 13 (List.map e61 v726)), (.v (.sl .nonfull (List.map e52 ([(⟨(a0.fClasses.length : Int), 0⟩ : S52)]))))]), .dead, .dead, .dead, .dead, (b5_4 v554), .dead, (rowO 5 (List.map e61 v726))]⟩ (by generalize v726 = z0; cases z0 <;> kernel_rfl) ?_)
   exact hxx732 (v724, v725, v726)  hsx735
theorem ok5 (m : Nat) (a0 : S23) (o : (S29 × S31)) (h : f5 m a0 = some o) (n : Nat) (hn : m + 6 ≤ n) : Fn Proofs.Tryz.prog EG n 5 [.v (e23 a0)] (.tuple [e29 o.1, e31 o.2]) := by
 obtain ⟨n, rfl⟩ : ∃ q, n = q + 1 := ⟨n - 1, by omega⟩
 unfold f5 at h
 refine Fn.of (by kernel_rfl) (by kernel_rfl) (by kernel_rfl) ⟨(.v (.agg [(vP e55 a0.fClasses)]))::u40 (u40 (u40 (u40 (u11 [])))), []⟩ (by kernel_rfl) (Wp.sq (Wp.rg (Ops.sg 3 3 (Ops.dn (seqQ.n (Wp.sq (Wp.sq (Wp.rg (Ops.sg 1 1 ?_)))))))))
 obtain ⟨v1, ev1, h⟩ := bnd_some h
 refine Ops.on 2 (fun h0 e0 => (call_ok (E' := EG) (h := h0) (by kernel_rfl) (Args.v (.agg [(vP e55 a0.fClasses)]) (e23 a0) (by kernel_rfl) Args.nil) (ok14g m a0 v1 ev1 n (by omega)))) ?_
 refine Ops.sg 2 4 (Ops.dn (seqQ.n (Wp.sq (Wp.rg (Ops.sg 3 3 (Ops.dn (seqQ.n ?_)))))))
 refine Wp.cd h [1, 2, 3] 4 (fun h => ?_) (fun h => ?_)
 ·refine Wp.sq (Wp.regionF (by kernel_rfl) (Ops.sg 4 4 (Ops.dn (seqQ.n (Wp.rt (sqQ.r (seqQ.r ?_)))))))
  exact fnQ.r' (X5 n) (fun z => (.tuple [e29 z.1, e31 z.2])) h (RetOk.mk' (.v (.tuple [(.agg [(vI 0), (.sl .nil (List.map e61 [])), (.sl .nil (List.map e52 []))]), (.agg [(vI v1.fCode), (vI v1.fIndex)])])) (by kernel_rfl) (by kernel_rfl))
 ·refine Wp.sk (sqQ.n' (seqQ.n (Wp.sq (Wp.rg (Ops.sg 1 1 ?_)))))
  obtain ⟨v2, ev2, h⟩ := bnd_some h
  refine Ops.on 2 (fun h0 e0 => (call_ok (E' := EG) (h := h0) (by kernel_rfl) (Args.v (.agg [(vP e55 a0.fClasses)]) (e23 a0) (by kernel_rfl) Args.nil) (ok15 m a0 v2 ev2 n (by omega)).fn)) ?_
  refine Ops.sg 1 3 (Ops.dn (seqQ.n (Wp.sq (Wp.rg (Ops.sg 2 2 ?_)))))
  refine Ops.on 3 (fun h0 e0 => (len_r (T := T) h0 22 56 .plain e55 a0.fClasses (by kernel_rfl))) ?_
  refine Ops.sg 1 4 (Ops.dn (seqQ.n (Wp.sq (Wp.rg (Ops.sg 8 8 (Ops.dn (seqQ.n (Wp.sq (Wp.sq (Wp.rg (Ops.sg 2 2 ?_)))))))))))
  refine Ops.on 3 (fun h0 e0 => (len_r (T := T) h0 22 56 .plain e55 a0.fClasses (by kernel_rfl))) ?_
  refine Ops.sg 1 4 (Ops.dn (seqQ.n (Wp.bk 0 [2, 3, 7] 7 ?_)))
  have hLx822 : ∀ (kx546 : Nat) (v542 v543 : Int) (v544 : (List S61))  (ox545 : (S29 × S31) ⊕ (Int × Int × (List S61))), iter (fun (y : Int × Int × (List S61)) => f5_B8 m a0 v2 y.1 y.2.1 y.2.2) kx546 (v542, v543, v544) = some ox545 → ∀ nx547, kx546 ≤ nx547 → (∀ r, ox545 = .inl r → ∀ σ, RetOk (X5 n) (resOf Proofs.Tryz.prog 5) (.tuple [e29 r.1, e31 r.2]) σ → (seqQ (X5 n) p5_0 (fnQ (X5 n).E.T (resOf Proofs.Tryz.prog 5) (.tuple [e29 o.1, e31 o.2]))) .ret σ) → (∀ (y : Int × Int × (List S61)) , ox545 = .inr y → (seqQ (X5 n) p5_0 (fnQ (X5 n).E.T (resOf Proofs.Tryz.prog 5) (.tuple [e29 o.1, e31 o.2]))) .normal ⟨Zs27 (q40 (q4 [])), [(b5_0 a0), b5_1, b5_2, (b5_3 v1), .dead, .dead, (.cells [(dI y.2.1), (rowF .nil 8 (List.map e61 y.2.2)), (.v (.sl .nonfull (List.map e52 ([(⟨(a0.fClasses.length : Int), 0⟩ : S52)]))))]), .dead, (rowO 5 (List.map e61 y.2.2))]⟩) → Lp (X5 n) k5_1 7 p5_1 nx547 ⟨Zs0 v2 (a0.fClasses.length : Int) (q37 ((dP e55 a0.fClasses)::(dI (a0.fClasses.length : Int))::(dI v542)::q40 (q40 (q40 (q4 []))))), [(b5_0 a0), b5_1, b5_2, (b5_3 v1), .dead, .dead, (.cells [(dI v543), (rowF .nil 8 (List.map e61 v544)), (.v (.sl .nonfull (List.map e52 ([(⟨(a0.fClasses.length : Int), 0⟩ : S52)]))))]), .dead, (rowO 5 (List.map e61 v544))]⟩ (blkQ (X5 n) 0 [2, 3, 7] 7 (seqQ (X5 n) p5_0 (fnQ (X5 n).E.T (resOf Proofs.Tryz.prog 5) (.tuple [e29 o.1, e31 o.2])))) := by
   intro kx546
   induction kx546 with
   | zero => intro v542 v543 v544  ox545 h; exact (iter_zero h).elim
   | succ kx546 ihx548 =>
    intro v542 v543 v544  ox545 h nx547 hnx551 hrx549 hxx550
    obtain ⟨nx547, rfl⟩ : ∃ q, nx547 = q + 1 := ⟨nx547 - 1, by omega⟩
    obtain ⟨sx552, h, hsx553⟩ := iter_some h
    have h : f5_B8 m a0 v2 v542 v543 v544 = some sx552 := h
    unfold f5_B8 at h
    refine Lp.succ (Wp.sq (Wp.rg (Ops.sg 1 1 (Ops.dn (seqQ.n (Wp.sq ?_))))))
    refine Wp.cd h k5_1 9 (fun h => ?_) (fun h => ?_)
    ·refine Wp.sk (sqQ.n ⟨Zs0 v2 (a0.fClasses.length : Int) (q37 ((dP e55 a0.fClasses)::(dI (a0.fClasses.length : Int))::(dI v542)::q40 (q40 (q40 (q4 []))))), [(b5_0 a0), b5_1, b5_2, (b5_3 v1), .dead, .dead, (.cells [(dI v543), (rowF .nil 10 (List.map e61 v544)), (.v (.sl .nonfull (List.map e52 ([(⟨(a0.fClasses.length : Int), 0⟩ : S52)]))))]), .dead, .dead, .dead, (rowO 5 (List.map e61 v544))]⟩ (by generalize v544 = z0; cases z0 <;> kernel_rfl) (seqQ.n (Wp.sq (Wp.bk 1 k5_1 11 (Wp.sq (Wp.rg (Ops.sg 1 1 ?_)))))))
     obtain ⟨v554, ev554, h⟩ := bnd_some h
     refine Ops.on 2 (fun h0 e0 => (ix_r (T := T) h0 22 56 2 .plain e55 a0.fClasses v542 v554 ev554 (by kernel_rfl) (by kernel_rfl) (fun _ => rfl))) ?_
     refine Ops.sg 4 6 (Ops.dn (seqQ.n (Wp.sq (Wp.rg (Ops.sg 2 2 ?_)))))
     refine Ops.on 3 (fun h0 e0 => (len_r (T := T) h0 54 58 .plain e57 v554.fItems (by kernel_rfl))) ?_
     refine Ops.sg 1 4 (Ops.dn (seqQ.n (Wp.bk 2 k5_1 12 ?_)))
     have hLx819 := f5_hLx819 m a0 o n hn v2 v542 v554 nx547 v1
     refine Wp.loop' k5_0 12 (by kernel_rfl) ⟨Zs0 v2 (a0.fClasses.length : Int) ((dI v542)::q36 ((dP e55 a0.fClasses)::(dI (a0.fClasses.length : Int))::(dI v542)::q5 ((dP e57 v554.fItems)::(dI (v554.fItems.length : Int))::(dI 0)::q40 (q40 (q36 []))))), [(b5_0 a0), b5_1, b5_2, (b5_3 v1), .dead, .dead, (.cells [(dI v543), (rowF .nil 13 (List.map e61 v544)), (.v (.sl .nonfull (List.map e52 ([(⟨(a0.fClasses.length : Int), 0⟩ : S52)]))))]), .dead, .dead, .dead, .dead, (b5_4 v554), .dead, (rowO 5 (List.map e61 v544))]⟩ (by generalize v544 = z0; cases z0 <;> kernel_rfl) ?_
     rcases brk_some h with ⟨r821, er821, h⟩ | ⟨y820, ey820, h⟩
     ·refine hLx819 _ 0 v543 v544  _ er821 n (by omega) (fun r er σ hσ => ?_) (fun y  ey => by cases ey)
      cases er
      refine blkQ.r (seqQ.r (lpQ.r ?_))
      cases h
      refine blkQ.r ?_
      exact hrx549 _ hsx553 _ (RetOk.forget k5_1 (by kernel_rfl) hσ)
     ·refine hLx819 _ 0 v543 v544  _ ey820 n (by omega) (fun r er => by cases er) (fun y  ey => ?_)
      cases ey
      refine blkQ.n ⟨Zs0 v2 (a0.fClasses.length : Int) (q37 ((dP e55 a0.fClasses)::(dI (a0.fClasses.length : Int))::(dI v542)::q40 (q40 (q40 (q4 []))))), [(b5_0 a0), b5_1, b5_2, (b5_3 v1), .dead, .dead, (.cells [(dI y820.2.1), (rowF .nil 12 (List.map e61 y820.2.2)), (.v (.sl .nonfull (List.map e52 ([(⟨(a0.fClasses.length : Int), 0⟩ : S52)]))))]), .dead, .dead, .dead, .dead, .dead, (rowO 5 (List.map e61 y820.2.2))]⟩ (by generalize y820.2.2 = z0; cases z0 <;> kernel_rfl) (seqQ.n (Wp.rg (Ops.sg 2 2 (Ops.dn (lpQ.n ⟨Zs0 v2 (a0.fClasses.length : Int) (q37 ((dP e55 a0.fClasses)::(dI (a0.fClasses.length : Int))::(dI (w64 (v542 + 1)))::q40 (q40 (q40 (q4 []))))), [(b5_0 a0), b5_1, b5_2, (b5_3 v1), .dead, .dead, (.cells [(dI y820.2.1), (rowF .nil 8 (List.map e61 y820.2.2)), (.v (.sl .nonfull (List.map e52 ([(⟨(a0.fClasses.length : Int), 0⟩ : S52)]))))]), .dead, (rowO 5 (List.map e61 y820.2.2))]⟩ (by generalize y820.2.2 = z0; cases z0 <;> kernel_rfl) ?_)))))
      cases h
      exact ihx548 (w64 (v542 + 1)) y820.2.1 y820.2.2  _ hsx553 _ (by omega) hrx549 hxx550
    ·refine Wp.ex 0 (sqQ.x (seqQ.x ?_))
     cases h
     refine lpQ.x (blkQ.x ⟨Zs27 (q40 (q4 [])), [(b5_0 a0), b5_1, b5_2, (b5_3 v1), .dead, .dead, (.cells [(dI v543), (rowF .nil 8 (List.map e61 v544)), (.v (.sl .nonfull (List.map e52 ([(⟨(a0.fClasses.length : Int), 0⟩ : S52)]))))]), .dead, (rowO 5 (List.map e61 v544))]⟩ (by generalize v544 = z0; cases z0 <;> kernel_rfl) ?_)
     exact hxx550 (v542, v543, v544)  hsx553
  refine Wp.loop' k5_1 7 (by kernel_rfl) ⟨Zs0 v2 (a0.fClasses.length : Int) (q37 ((dP e55 a0.fClasses)::(dI (a0.fClasses.length : Int))::(dI 0)::q40 (q40 (q40 (q4 []))))), [(b5_0 a0), b5_1, b5_2, (b5_3 v1), .dead, .dead, (.cells [(dI (w64 ((a0.fClasses.length : Int) + 1))), (rowF .nil 8 (List.map e61 [])), (.v (.sl .nonfull (List.map e52 ([(⟨(a0.fClasses.length : Int), 0⟩ : S52)]))))]), .dead, (rowO 5 (List.map e61 []))]⟩ (by kernel_rfl) ?_
  rcases brk_some h with ⟨r824, er824, h⟩ | ⟨y823, ey823, h⟩
  ·refine hLx822 _ 0 (w64 ((a0.fClasses.length : Int) + 1)) []  _ er824 n (by omega) (fun r er σ hσ => ?_) (fun y  ey => by cases ey)
   cases er
   refine seqQ.r ?_
   exact fnQ.r' (X5 n) (fun z => (.tuple [e29 z.1, e31 z.2])) h hσ
  ·refine hLx822 _ 0 (w64 ((a0.fClasses.length : Int) + 1)) []  _ ey823 n (by omega) (fun r er => by cases er) (fun y  ey => ?_)
   cases ey
   refine seqQ.n (Wp.sq (Wp.rg (Ops.sg 2 2 ?_)))
   obtain ⟨v825, ev825, h⟩ := bnd_some h
   refine Ops.on 3 (fun h0 e0 => (callD_own (P := Proofs.Tryz.prog) (E := EG) (E' := EG) (n := n) (f := 19) (by kernel_rfl) (by kernel_rfl) (by kernel_rfl) (row_sort19 h0 8 y823.2.2 v825 ev825 (hq_of e0 (by kernel_rfl))) (by omega))) ?_
   refine Ops.st ⟨q2 ((.ptr 1 0)::(.ptr 2 0)::q3 ((.ptr 6 0)::q40 (q40 (q40 (q29 ((.ptr 6 1)::(rowF .nil 8 (List.map e61 y823.2.2))::u1 (q12 []))))))), [(b5_0 a0), b5_1, b5_2, (b5_3 v1), .dead, .dead, (.cells [(dI y823.2.1), (rowF .nil 8 (List.map e61 y823.2.2)), (.v (.sl .nonfull (List.map e52 ([(⟨(a0.fClasses.length : Int), 0⟩ : S52)]))))]), .dead, (rowO 5 (List.map e61 v825))]⟩ (by kernel_rfl) ?_
   rw [srt19_row 8 ev825]
   refine Ops.dn (seqQ.n (Wp.sq (Wp.rg (Ops.sg 2 2 ?_))))
   obtain ⟨v826, ev826, h⟩ := bnd_some h
   refine Ops.on 3 (fun h0 e0 => (callD_own (P := Proofs.Tryz.prog) (E := EG) (E' := EG) (n := n) (f := 21) (by kernel_rfl) (by kernel_rfl) (by kernel_rfl) (row_compact21 h0 8 v825 v826 ev826 (hq_of e0 (by kernel_rfl))) (by omega))) ?_
   refine Ops.sg 1 4 ?_
   refine Ops.on 5 (fun h0 e0 => (st_l (i := ti27) (h := h0) (r := 6) (off := 1) (cs := [(dI y823.2.1), (rowF .nil 8 (List.map e61 v825)), (.v (.sl .nonfull (List.map e52 ([(⟨(a0.fClasses.length : Int), 0⟩ : S52)]))))]) (cs' := [(dI y823.2.1), (rowF .nil 8 (List.map e61 v826)), (.v (.sl .nonfull (List.map e52 ([(⟨(a0.fClasses.length : Int), 0⟩ : S52)]))))]) (x := (rowF .nil 8 (List.map e61 v826))) (hq_of (g := [(b5_0 a0), b5_1, b5_2, (b5_3 v1), .dead, .dead, (.cells [(dI y823.2.1), (rowF .nil 8 (List.map e61 v825)), (.v (.sl .nonfull (List.map e52 ([(⟨(a0.fClasses.length : Int), 0⟩ : S52)]))))]), .dead, (rowO 5 (List.map e61 v826))]) (e0.trans (by kernel_rfl)) rfl) (by kernel_rfl) (rowF_one _ _ _) (by rfl))) ?_
   refine Ops.dn (seqQ.n (Wp.sq (Wp.sq (Wp.rg (Ops.sg 2 2 ?_)))))
   refine Ops.on 3 (fun h0 e0 => (len_w (T := T) (g := .nil) h0 27 62 8 e61 v826 (by kernel_rfl))) ?_
   refine Ops.sg 1 4 (Ops.dn (seqQ.n ?_))
   refine Wp.cd h [2, 3, 7] 9 (fun h => ?_) (fun h => ?_)
   ·refine Wp.sq (Wp.rg (Ops.sg 1 1 ?_))
    obtain ⟨v827, ev827, h⟩ := bnd_some h
    refine Ops.on 2 (fun h0 e0 => (call_ok (E' := EG) (h := h0) (by kernel_rfl) (Args.v (vI 17) (eI 17) (by kernel_rfl) (Args.v (vI (-1)) (eI (-1)) (by kernel_rfl) Args.nil)) (ok18g m 17 (-1) v827 ev827 n (by omega)))) ?_
    refine Ops.sg 2 4 (Ops.dn (seqQ.n (Wp.rt (sqQ.r (seqQ.r ?_)))))
    exact fnQ.r' (X5 n) (fun z => (.tuple [e29 z.1, e31 z.2])) h (RetOk.mk' (.v (.tuple [(.agg [(vI 0), (.sl .nil (List.map e61 [])), (.sl .nil (List.map e52 []))]), (.agg [(vI v827.fCode), (vI v827.fIndex)])])) (by kernel_rfl) (by kernel_rfl))
   ·refine Wp.sk (sqQ.n ⟨Zs27 (q40 (q4 [])), [(b5_0 a0), b5_1, b5_2, (b5_3 v1), .dead, .dead, (.cells [(dI y823.2.1), (rowF .nil 10 (List.map e61 v826)), (.v (.sl .nonfull (List.map e52 ([(⟨(a0.fClasses.length : Int), 0⟩ : S52)]))))]), .dead, .dead, .dead, (rowO 5 (List.map e61 v826))]⟩ (by generalize v826 = z0; cases z0 <;> kernel_rfl) (seqQ.n (Wp.sq (Wp.rg (Ops.sg 2 2 ?_)))))
    refine Ops.on 3 (fun h0 e0 => (st_s (i := ti30) (h := h0) (r := 1) (off := 0) (cs := [(dI 0), (.v (.sl .nil (List.map e61 []))), (.v (.sl .nil (List.map e52 [])))]) (cs' := [(dI y823.2.1), (rowF .nil 10 (List.map e61 v826)), (.v (.sl .nonfull (List.map e52 ([(⟨(a0.fClasses.length : Int), 0⟩ : S52)]))))]) (ds := [(dI y823.2.1), (rowF .nil 10 (List.map e61 v826)), (.v (.sl .nonfull (List.map e52 ([(⟨(a0.fClasses.length : Int), 0⟩ : S52)]))))]) (hq_of (g := [(b5_0 a0), b5_1, b5_2, (b5_3 v1), .dead, .dead, (.cells [(dI y823.2.1), (rowF .nil 10 (List.map e61 v826)), (.v (.sl .nonfull (List.map e52 ([(⟨(a0.fClasses.length : Int), 0⟩ : S52)]))))]), .dead, .dead, .dead, (rowO 5 (List.map e61 v826))]) (e0.trans (by kernel_rfl)) rfl) (by kernel_rfl) (all_sc rfl (all_sc (rowF_sc _ _ _) (all_sc rfl rfl))) (by rfl))) ?_
    refine Ops.sg 1 4 (Ops.dn (seqQ.n (Wp.rt ?_)))
    exact fnQ.r' (X5 n) (fun z => (.tuple [e29 z.1, e31 z.2])) h (RetOk.tup [(mkAgg [(dI y823.2.1), (rowF .nil 10 (List.map e61 v826)), (.v (.sl .nonfull (List.map e52 ([(⟨(a0.fClasses.length : Int), 0⟩ : S52)]))))]), (.v (.agg [(vI 0), (vI 0)]))] (by kernel_rfl) (.d (mkAgg [(dI y823.2.1), (rowF .nil 10 (List.map e61 v826)), (.v (.sl .nonfull (List.map e52 ([(⟨(a0.fClasses.length : Int), 0⟩ : S52)]))))]) _ (mkAgg_frz (.cons (dI y823.2.1) _ (by kernel_rfl) (by kernel_rfl) (.cons (rowF .nil 10 (List.map e61 v826)) _ (row_frz _ _ 10 5 _ (by kernel_rfl)) (rowF_na _ _ _) (.cons (.v (.sl .nonfull (List.map e52 ([(⟨(a0.fClasses.length : Int), 0⟩ : S52)])))) _ (by kernel_rfl) (by kernel_rfl) .nil)))) (mkAgg_nt _) (.v (.agg [(vI 0), (vI 0)]) _ (by kernel_rfl) (by kernel_rfl) .nil)))
def f29 (m : Nat) (a0 a1 : Int) : Option S31 :=
 some ((⟨a0, a1⟩ : S31))
noncomputable abbrev X29 (n : Nat) : Cx := cxOf Proofs.Tryz.prog EG 29 n
theorem ok29 (m : Nat) (a0 a1 : Int) (o : S31) (h : f29 m a0 a1 = some o) (n : Nat) (hn : m + 1 ≤ n) : Fn Proofs.Tryz.prog EG n 29 [.v (eI a0), .v (eI a1)] (e31 o) := by
 obtain ⟨n, rfl⟩ : ∃ q, n = q + 1 := ⟨n - 1, by omega⟩
 unfold f29 at h
 refine Fn.of (by kernel_rfl) (by kernel_rfl) (by kernel_rfl) ⟨(dI a0)::(dI a1)::u6 [], []⟩ (by kernel_rfl) (Wp.sq (Wp.rg (Ops.sg 1 1 (Ops.dn (seqQ.n (Wp.sq (Wp.rg (Ops.sg 4 4 (Ops.dn (seqQ.n (Wp.rt ?_)))))))))))
 exact fnQ.r' (X29 n) (fun z => (e31 z)) h (RetOk.mk' (.v (.agg [(vI a0), (vI a1)])) (by kernel_rfl) (by kernel_rfl))
def f52_r1 (m : Nat) (v17 : Bool) : Option Bool :=
 some v17
def f52_r2 (m : Nat) (a0 : Int) (v6 : Bool) : Option Bool :=
 f52_r1 m (v6 || ((decide (a0 > 57343)) && (decide (a0 ≤ 1114111))))
def f52 (m : Nat) (a0 : Int) : Option Bool :=
 f52_r2 m a0 ((decide (a0 ≥ 0)) && (decide (a0 < 55296)))
noncomputable abbrev X52 (n : Nat) : Cx := cxOf Proofs.Tryz.prog EG 52 n
theorem ok52 (m : Nat) (a0 : Int) (o : Bool) (h : f52 m a0 = some o) (n : Nat) (hn : m + 1 ≤ n) : Fn Proofs.Tryz.prog EG n 52 [.v (eI a0)] (eB o) := by
 obtain ⟨n, rfl⟩ : ∃ q, n = q + 1 := ⟨n - 1, by omega⟩
 unfold f52 at h
 refine Fn.of (by kernel_rfl) (by kernel_rfl) (by kernel_rfl) ⟨(dI a0)::u16 [], []⟩ (by kernel_rfl) (Wp.sq (Wp.rg (Ops.sg 1 1 (Ops.dn (seqQ.n (Wp.sq (Wp.rg (Ops.sg 3 3 ?_))))))))
 refine Ops.hv (fun KQ => ∀ (d3 d4 : D) (v5 v6 : Bool), f52_r2 m a0 v6 = some o → KQ 6 ⟨Zs26 a0 v5 (d3::d4::(dB v6)::u8 []), []⟩) ?_ fun J52j7 => ?_
 ·intro d3 d4 v5 v6 h
  unfold f52_r2 at h
  refine Ops.sg 1 7 ?_
  refine Ops.hv (fun KQ => ∀ (d10 d11 d12 d13 d14 d15 : D) (v16 v17 : Bool), f52_r1 m v17 = some o → KQ 14 ⟨Zs26 a0 v5 (d3::d4::(dB v16)::(dB v16)::d10::d11::d12::d13::d14::d15::(dB v17)::[]), []⟩) ?_ fun J52j18 => ?_
  ·intro d10 d11 d12 d13 d14 d15 v16 v17 h
   unfold f52_r1 at h
   refine Ops.sg 1 15 (Ops.dn (seqQ.n (Wp.rt ?_)))
   exact fnQ.r' (X52 n) (fun z => (eB z)) h (RetOk.mk' (dB v17) (by kernel_rfl) (by kernel_rfl))
  refine Ops.hv (fun KQ => ∀ v8 : Bool, f52_r1 m (v8 || ((decide (a0 > 57343)) && (decide (a0 ≤ 1114111)))) = some o → KQ 7 ⟨Zs26 a0 v5 (d3::d4::(dB v8)::(dB v8)::u7 []), []⟩) ?_ fun G52g9 => Ops.sx (G52g9 v6 h)
  intro v8 h
  cases v8
  ·refine Ops.sg 3 10 ?_
   refine Ops.hv (fun KQ => ∀ v19 : Bool, (f52_r1 m (false || (v19 && (decide (a0 ≤ 1114111))))) = some o → KQ 10 ⟨Zs26 a0 v5 (d3::d4::(dB false)::(dB false)::(dI a0)::(dB v19)::(dB v19)::u4 []), []⟩) ?_ fun G52g20 => Ops.sx (G52g20 (decide (a0 > 57343)) h)
   intro v19 h
   cases v19
   ·refine Ops.sg 4 14 ?_
    exact Ops.sx (J52j18 (dI a0) (dB false) (dB false) U U (dB false) false false h)
   ·refine Ops.sg 4 14 ?_
    exact Ops.sx (J52j18 (dI a0) (dB true) (dB true) (dI a0) (dB (decide (a0 ≤ 1114111))) (dB (decide (a0 ≤ 1114111))) false (decide (a0 ≤ 1114111)) h)
  ·refine Ops.sg 7 14 ?_
   exact Ops.sx (J52j18 U U U U U U true true h)
 refine Ops.hv (fun KQ => ∀ v1 : Bool, f52_r2 m a0 (v1 && (decide (a0 < 55296))) = some o → KQ 3 ⟨Zs26 a0 v1 (u11 []), []⟩) ?_ fun G52g2 => Ops.sx (G52g2 (decide (a0 ≥ 0)) h)
 intro v1 h
 cases v1
 ·refine Ops.sg 3 6 ?_
  exact Ops.sx (J52j7 U U false false h)
 ·refine Ops.sg 3 6 ?_
  exact Ops.sx (J52j7 (dI a0) (dB (decide (a0 < 55296))) true (decide (a0 < 55296)) h)
def f31 (m : Nat) (a0 : Int) : Option Int :=
 cnd (decide (a0 < 128))
 (some 1)
 (cnd (decide (a0 < 2048))
 (some 2)
 (cnd (decide (a0 < 65536))
 (some 3)
 (some 4)))
noncomputable abbrev X31 (n : Nat) : Cx := cxOf Proofs.Tryz.prog EG 31 n
theorem ok31 (m : Nat) (a0 o : Int) (h : f31 m a0 = some o) (n : Nat) (hn : m + 1 ≤ n) : Fn Proofs.Tryz.prog EG n 31 [.v (eI a0)] (eI o) := by
 obtain ⟨n, rfl⟩ : ∃ q, n = q + 1 := ⟨n - 1, by omega⟩
 unfold f31 at h
 refine Fn.of (by kernel_rfl) (by kernel_rfl) (by kernel_rfl) ⟨(dI a0)::u8 [], []⟩ (by kernel_rfl) (Wp.sq (Wp.rg (Ops.sg 1 1 (Ops.dn (seqQ.n (Wp.sq (Wp.sq (Wp.rg (Ops.sg 2 2 (Ops.dn (seqQ.n ?_)))))))))))
 refine Wp.cd h [0, 2] 0 (fun h => ?_) (fun h => ?_)
 ·refine Wp.sq (Wp.rg (Ops.sg 1 1 (Ops.dn (seqQ.n (Wp.rt (sqQ.r (seqQ.r ?_)))))))
  exact fnQ.r' (X31 n) (fun z => (eI z)) h (RetOk.mk' (dI 1) (by kernel_rfl) (by kernel_rfl))
 ·refine Wp.sk (sqQ.n' (seqQ.n (Wp.sq (Wp.sq (Wp.rg (Ops.sg 2 2 (Ops.dn (seqQ.n ?_))))))))
  refine Wp.cd h [0, 2] 0 (fun h => ?_) (fun h => ?_)
  ·refine Wp.sq (Wp.rg (Ops.sg 1 1 (Ops.dn (seqQ.n (Wp.rt (sqQ.r (seqQ.r ?_)))))))
   exact fnQ.r' (X31 n) (fun z => (eI z)) h (RetOk.mk' (dI 2) (by kernel_rfl) (by kernel_rfl))
  ·refine Wp.sk (sqQ.n' (seqQ.n (Wp.sq (Wp.sq (Wp.rg (Ops.sg 2 2 (Ops.dn (seqQ.n ?_))))))))
   refine Wp.cd h [2] 0 (fun h => ?_) (fun h => ?_)
   ·refine Wp.sq (Wp.rg (Ops.sg 1 1 (Ops.dn (seqQ.n (Wp.rt (sqQ.r (seqQ.r ?_)))))))
    exact fnQ.r' (X31 n) (fun z => (eI z)) h (RetOk.mk' (dI 3) (by kernel_rfl) (by kernel_rfl))
   ·refine Wp.sk (sqQ.n' (seqQ.n (Wp.sq (Wp.rg (Ops.sg 1 1 (Ops.dn (seqQ.n (Wp.rt ?_))))))))
    exact fnQ.r' (X31 n) (fun z => (eI z)) h (RetOk.mk' (dI 4) (by kernel_rfl) (by kernel_rfl))
def f30_r1 (m : Nat) (v35 v36 v46 : Int) (v52 : Bool) : Option (Stp Int (Int × Int)) :=
 cnd v52
 (some (.ret (-1)))
 (some (.nxt (w64 (w64 (w64 (v35 * 64) + w64 v46) - 128), w64 (v36 + 1))))
def f30_B2 (m : Nat) (a0 : ByteArray) (a1 v2 v35 v36 : Int) : Option (Stp Int (Int × Int)) :=
 cnd (decide (v36 < v2))
 (bnd (sidx a0 (w64 (a1 + v36))) fun v46 =>
 f30_r1 m v35 v36 v46 ((decide (w64 v46 < 128)) || (decide (w64 v46 > 191))))
 (some (.brk (v35, v36)))
def f30_r3 (m : Nat) (y55 : Int × Int) (v65 : Bool) : Option Int :=
 cnd v65
 (some (-1))
 (some y55.1)
def f30_j4 (m : Nat) (a0 : ByteArray) (a1 v2 v3 : Int) : Option Int :=
 cnd (decide (w64 (a1 + v2) > (a0.size : Int)))
 (some (-1))
 (brk (iter (fun (y : Int × Int) => f30_B2 m a0 a1 v2 y.1 y.2) m (v3, 1)) some fun y55 =>
 bnd (f52 m y55.1) fun v57 =>
 bnd (cnd (!v57)
 (some true)
 (bnd (f31 m y55.1) fun v67 =>
 some (v67 != v2))) fun v65 =>
 f30_r3 m y55 v65)
def f30_j5 (m : Nat) (a0 : ByteArray) (a1 v68 v69 : Int) : Option Int :=
 f30_j4 m a0 a1 v68 v69
def f30_j6 (m : Nat) (a0 : ByteArray) (a1 v79 v80 : Int) : Option Int :=
 f30_j5 m a0 a1 v79 v80
def f30 (m : Nat) (a0 : ByteArray) (a1 : Int) : Option Int :=
 bnd (sidx a0 a1) fun v1 =>
 cnd (decide (w64 v1 ≥ 240))
 (f30_j4 m a0 a1 4 (w64 (w64 v1 - 240)))
 (cnd (decide (w64 v1 ≥ 224))
 (f30_j5 m a0 a1 3 (w64 (w64 v1 - 224)))
 (cnd (decide (w64 v1 ≥ 192))
 (f30_j6 m a0 a1 2 (w64 (w64 v1 - 192)))
 (cnd (decide (w64 v1 ≥ 128))
 (some (-1))
 (f30_j6 m a0 a1 1 (w64 v1)))))
noncomputable abbrev X30 (n : Nat) : Cx := cxOf Proofs.Tryz.prog EG 30 n
noncomputable def C30 : Code := bodyOf Proofs.Tryz.prog 30
noncomputable abbrev p30_0 : Code := cR (cR (cR (cR (cR (cR (cR C30))))))
theorem ok30 (m : Nat) (a0 : ByteArray) (a1 o : Int) (h : f30 m a0 a1 = some o) (n : Nat) (hn : m + 2 ≤ n) : Fn Proofs.Tryz.prog EG n 30 [.v (eS a0), .v (eI a1)] (eI o) := by
 obtain ⟨n, rfl⟩ : ∃ q, n = q + 1 := ⟨n - 1, by omega⟩
 unfold f30 at h
 refine Fn.of (by kernel_rfl) (by kernel_rfl) (by kernel_rfl) ⟨(.v (.str a0))::(dI a1)::u40 (u25 []), []⟩ (by kernel_rfl) (Wp.sq (Wp.rg (Ops.sg 1 1 (Ops.dn (seqQ.n (Wp.sq (Wp.rg (Ops.sg 2 2 ?_))))))))
 obtain ⟨v1, ev1, h⟩ := bnd_some h
 refine Ops.on 3 (fun h0 e0 => (str_ix (T := T) h0 9 a0 a1 v1 ev1 (by kernel_rfl))) ?_
 refine Ops.sg 2 5 (Ops.dn (seqQ.n (Wp.sq (Wp.rg (Ops.sg 1 1 (Ops.dn (seqQ.n (Wp.sq (Wp.rg (Ops.sg 2 2 (Ops.dn (seqQ.n (Wp.sq (Wp.sq (Wp.rg (Ops.sg 2 2 (Ops.dn (seqQ.n ?_))))))))))))))))))
 have J30j16 : ∀ (v2 v3 : Int) (d4 d5 d6 d7 d8 d9 d10 d11 d12 d13 d14 d15 : D), f30_j4 m a0 a1 v2 v3 = some o → (seqQ (X30 n) (cR (cR (cR (cR (cR C30))))) (fnQ (X30 n).E.T (resOf Proofs.Tryz.prog 30) (eI o))) .normal ⟨Zs11 a0 a1 (w64 v1) v2 v3 (.v (.int .u8 v1)) (decide (w64 v1 ≥ 240)) (d4::d5::d6::d7::d8::d9::d10::d11::d12::d13::d14::d15::u38 []), []⟩ := by
  intro v2 v3 d4 d5 d6 d7 d8 d9 d10 d11 d12 d13 d14 d15 h
  unfold f30_j4 at h
  refine seqQ.n (Wp.sq (Wp.sq (Wp.rg (Ops.sg 6 6 (Ops.dn (seqQ.n ?_))))))
  refine Wp.cd h [0, 1, 4, 6, 7] 0 (fun h => ?_) (fun h => ?_)
  ·refine Wp.sq (Wp.rg (Ops.sg 1 1 (Ops.dn (seqQ.n (Wp.rt (sqQ.r (seqQ.r ?_)))))))
   exact fnQ.r' (X30 n) (fun z => (eI z)) h (RetOk.mk' (dI (-1)) (by kernel_rfl) (by kernel_rfl))
  ·refine Wp.sk (sqQ.n' (seqQ.n (Wp.sq (Wp.sq (Wp.rg (Ops.sg 1 1 (Ops.dn (seqQ.n (Wp.bk 0 [4, 6, 7] 0 ?_)))))))))
   have hLx54 : ∀ (kx38 : Nat) (v35 v36 : Int)  (ox37 : Int ⊕ (Int × Int)), iter (fun (y : Int × Int) => f30_B2 m a0 a1 v2 y.1 y.2) kx38 (v35, v36) = some ox37 → ∀ nx39, kx38 ≤ nx39 → (∀ r, ox37 = .inl r → ∀ σ, RetOk (X30 n) (resOf Proofs.Tryz.prog 30) (eI r) σ → (seqQ (X30 n) p30_0 (fnQ (X30 n).E.T (resOf Proofs.Tryz.prog 30) (eI o))) .ret σ) → (∀ (y : Int × Int) , ox37 = .inr y → (seqQ (X30 n) p30_0 (fnQ (X30 n).E.T (resOf Proofs.Tryz.prog 30) (eI o))) .normal ⟨Zs15 a0 a1 v2 y.1 ((dI y.2)::q40 (q18 [])), []⟩) → Lp (X30 n) [0, 1, 4, 6, 7, 8] 0 (cL (cL (cR (cL (cR (cR (cR (cR (cR (cR C30)))))))))) nx39 ⟨Zs15 a0 a1 v2 v35 ((dI v36)::q40 (q18 [])), []⟩ (blkQ (X30 n) 0 [4, 6, 7] 0 (seqQ (X30 n) p30_0 (fnQ (X30 n).E.T (resOf Proofs.Tryz.prog 30) (eI o)))) := by
    intro kx38
    induction kx38 with
    | zero => intro v35 v36  ox37 h; exact (iter_zero h).elim
    | succ kx38 ihx40 =>
     intro v35 v36  ox37 h nx39 hnx43 hrx41 hxx42
     obtain ⟨nx39, rfl⟩ : ∃ q, nx39 = q + 1 := ⟨nx39 - 1, by omega⟩
     obtain ⟨sx44, h, hsx45⟩ := iter_some h
     have h : f30_B2 m a0 a1 v2 v35 v36 = some sx44 := h
     unfold f30_B2 at h
     refine Lp.succ (Wp.sq (Wp.sq (Wp.rg (Ops.sg 3 3 (Ops.dn (seqQ.n ?_))))))
     refine Wp.cd h [0, 1, 4, 6, 7, 8] 0 (fun h => ?_) (fun h => ?_)
     ·refine Wp.sk (sqQ.n' (seqQ.n (Wp.sq (Wp.bk 1 [0, 1, 4, 6, 7, 8] 0 (Wp.sq (Wp.rg (Ops.sg 4 4 ?_)))))))
      obtain ⟨v46, ev46, h⟩ := bnd_some h
      refine Ops.on 5 (fun h0 e0 => (str_ix (T := T) h0 9 a0 (w64 (a1 + v36)) v46 ev46 (by kernel_rfl))) ?_
      refine Ops.sg 2 7 (Ops.dn (seqQ.n (Wp.sq (Wp.sq (Wp.rg (Ops.sg 3 3 ?_))))))
      refine Ops.hv (fun KQ => ∀ (d49 d50 : D) (v51 v52 : Bool), f30_r1 m v35 v36 v46 v52 = some sx44 → KQ 6 ⟨Zs15 a0 a1 v2 v35 ((dI v36)::(dI (w64 v46))::q25 ((dI v36)::(dI v2)::(dB (decide (v36 < v2)))::q2 ((.v (.str a0))::(dI a1)::(dI v36)::(dI (w64 (a1 + v36)))::(.v (.int .u8 v46))::(dI (w64 v46))::(dI (w64 v46))::(dB v51)::(dB v51)::d49::d50::(dB v52)::q15 []))), []⟩) ?_ fun J30j53 => ?_
      ·intro d49 d50 v51 v52 h
       unfold f30_r1 at h
       refine Ops.dn (seqQ.n ?_)
       refine Wp.cd h [0, 1, 4, 6, 7, 8, 9] 0 (fun h => ?_) (fun h => ?_)
       ·refine Wp.sq (Wp.rg (Ops.sg 1 1 (Ops.dn (seqQ.n (Wp.rt (sqQ.r (seqQ.r (blkQ.r (seqQ.r ?_)))))))))
        cases h
        refine lpQ.r (blkQ.r ?_)
        exact hrx41 _ hsx45 _ (RetOk.forget [0, 1, 4, 6, 7, 8] (by kernel_rfl) (RetOk.mk' (dI (-1)) (by kernel_rfl) (by kernel_rfl)))
       ·refine Wp.sk (sqQ.n' (seqQ.n (Wp.rg (Ops.sg 6 6 (Ops.dn (blkQ.n' (seqQ.n (Wp.rg (Ops.sg 3 3 (Ops.dn (lpQ.m ⟨Zs15 a0 a1 v2 (w64 (w64 (w64 (v35 * 64) + w64 v46) - 128)) ((dI (w64 (v36 + 1)))::q40 (q18 [])), []⟩ ?_)))))))))))
        cases h
        exact ihx40 (w64 (w64 (w64 (v35 * 64) + w64 v46) - 128)) (w64 (v36 + 1))  _ hsx45 _ (by omega) hrx41 hxx42
      refine Ops.hv (fun KQ => ∀ v47 : Bool, f30_r1 m v35 v36 v46 (v47 || (decide (w64 v46 > 191))) = some sx44 → KQ 3 ⟨Zs15 a0 a1 v2 v35 ((dI v36)::(dI (w64 v46))::q25 ((dI v36)::(dI v2)::(dB (decide (v36 < v2)))::q2 ((.v (.str a0))::(dI a1)::(dI v36)::(dI (w64 (a1 + v36)))::(.v (.int .u8 v46))::(dI (w64 v46))::(dI (w64 v46))::(dB v47)::(dB v47)::q18 []))), []⟩) ?_ fun G30g48 => Ops.sx (G30g48 (decide (w64 v46 < 128)) h)
      intro v47 h
      cases v47
      ·refine Ops.sg 3 6 ?_
       exact Ops.sx (J30j53 (dI (w64 v46)) (dB (decide (w64 v46 > 191))) false (decide (w64 v46 > 191)) h)
      ·refine Ops.sg 3 6 ?_
       exact Ops.sx (J30j53 U U true true h)
     ·refine Wp.ex 0 (sqQ.x (seqQ.x ?_))
      cases h
      refine lpQ.x (blkQ.w ⟨Zs15 a0 a1 v2 v35 ((dI v36)::q40 (q18 [])), []⟩ ?_)
      exact hxx42 (v35, v36)  hsx45
   refine Wp.loop' [0, 1, 4, 6, 7, 8] 0 (by kernel_rfl) ⟨Zs15 a0 a1 v2 v3 ((dI 1)::q40 (q18 [])), []⟩ (by kernel_rfl) ?_
   rcases brk_some h with ⟨r56, er56, h⟩ | ⟨y55, ey55, h⟩
   ·refine hLx54 _ v3 1  _ er56 n (by omega) (fun r er σ hσ => ?_) (fun y  ey => by cases ey)
    cases er
    refine seqQ.r ?_
    exact fnQ.r' (X30 n) (fun z => (eI z)) h hσ
   ·refine hLx54 _ v3 1  _ ey55 n (by omega) (fun r er => by cases er) (fun y  ey => ?_)
    cases ey
    refine seqQ.n (Wp.sq (Wp.sq (Wp.rg (Ops.sg 1 1 ?_))))
    obtain ⟨v57, ev57, h⟩ := bnd_some h
    refine Ops.on 2 (fun h0 e0 => (call_ok (E' := EG) (h := h0) (by kernel_rfl) (Args.v (vI y55.1) (eI y55.1) (by kernel_rfl) Args.nil) (ok52 m y55.1 v57 ev57 n (by omega)))) ?_
    refine Ops.sg 2 4 ?_
    refine Ops.hv (fun KQ => ∀ (d60 d61 d62 d63 : D) (v64 v65 : Bool), f30_r3 m y55 v65 = some o → KQ 9 ⟨Zs15 a0 a1 v2 y55.1 ((dI y55.2)::q40 (q8 ((dI y55.1)::(dB v57)::(dB v64)::(dB v64)::d60::d61::d62::d63::(dB v65)::q1 []))), []⟩) ?_ fun J30j66 => ?_
    ·intro d60 d61 d62 d63 v64 v65 h
     unfold f30_r3 at h
     refine Ops.dn (seqQ.n ?_)
     refine Wp.cd h [4, 7] 0 (fun h => ?_) (fun h => ?_)
     ·refine Wp.sq (Wp.rg (Ops.sg 1 1 (Ops.dn (seqQ.n (Wp.rt (sqQ.r (seqQ.r ?_)))))))
      exact fnQ.r' (X30 n) (fun z => (eI z)) h (RetOk.mk' (dI (-1)) (by kernel_rfl) (by kernel_rfl))
     ·refine Wp.sk (sqQ.n' (seqQ.n (Wp.sq (Wp.rg (Ops.sg 2 2 (Ops.dn (seqQ.n (Wp.rt ?_))))))))
      exact fnQ.r' (X30 n) (fun z => (eI z)) h (RetOk.mk' (dI y55.1) (by kernel_rfl) (by kernel_rfl))
    obtain ⟨v65, ev65, h⟩ := bnd_some h
    refine Ops.hv (fun KQ => ∀ v58 : Bool, (cnd v58 (some true) (bnd (f31 m y55.1) fun v67 => some (v67 != v2))) = some v65 → KQ 4 ⟨Zs15 a0 a1 v2 y55.1 ((dI y55.2)::q40 (q8 ((dI y55.1)::(dB v57)::(dB v58)::(dB v58)::q6 []))), []⟩) ?_ fun G30g59 => Ops.sx (G30g59 (!v57) ev65)
    intro v58 ev65
    cases v58
    ·have ev65 := cnd_f ev65
     refine Ops.sg 1 5 ?_
     obtain ⟨v67, ev67, ev65⟩ := bnd_some ev65
     refine Ops.on 6 (fun h0 e0 => (call_ok (E' := EG) (h := h0) (by kernel_rfl) (Args.v (vI y55.1) (eI y55.1) (by kernel_rfl) Args.nil) (ok31 m y55.1 v67 ev67 n (by omega)))) ?_
     refine Ops.sg 3 9 ?_
     exact Ops.sx (J30j66 (dI y55.1) (dI v67) (dI v2) (dB (v67 != v2)) false (v67 != v2) (some_sub (fun v65 => f30_r3 m y55 v65 = some o) ev65 h))
    ·have ev65 := cnd_t ev65
     refine Ops.sg 5 9 ?_
     exact Ops.sx (J30j66 U U U U true true (some_sub (fun v65 => f30_r3 m y55 v65 = some o) ev65 h))
 refine Wp.cd h [0, 1, 4, 6, 7] 0 (fun h => ?_) (fun h => ?_)
 ·refine Wp.sq (Wp.rg (Ops.sg 1 1 (Ops.dn (seqQ.n (Wp.rg (Ops.sg 3 3 (Ops.dn (sqQ.m ⟨(.v (.str a0))::(dI a1)::u2 ((dI 0)::(dI (w64 v1))::(dI 4)::(dI (w64 (w64 v1 - 240)))::u2 ((.v (.str a0))::(dI a1)::(.v (.int .u8 v1))::(dI (w64 v1))::(dI (w64 v1))::(dI (w64 v1))::(dB (decide (w64 v1 ≥ 240)))::(dI (w64 v1))::(dI (w64 (w64 v1 - 240)))::u40 (u8 []))), []⟩ ?_))))))))
  exact J30j16 4 (w64 (w64 v1 - 240)) _ _ _ _ _ _ _ _ _ _ _ _ h
 ·refine Wp.sq (Wp.rg (Ops.sg 2 2 (Ops.dn (seqQ.n ?_))))
  have J30j78 : ∀ (v68 v69 : Int) (d70 d71 d72 d73 d74 d75 d76 d77 : D), f30_j5 m a0 a1 v68 v69 = some o → (sqQ (X30 n) [0, 1, 4, 6, 7] 0 (seqQ (X30 n) (cR (cR (cR (cR (cR C30))))) (fnQ (X30 n).E.T (resOf Proofs.Tryz.prog 30) (eI o)))) .normal ⟨Zs11 a0 a1 (w64 v1) v68 v69 (.v (.int .u8 v1)) (decide (w64 v1 ≥ 240)) (u2 ((dI (w64 v1))::(dB (decide (w64 v1 ≥ 224)))::d70::d71::d72::d73::d74::d75::d76::d77::u38 [])), []⟩ := by
   intro v68 v69 d70 d71 d72 d73 d74 d75 d76 d77 h
   unfold f30_j5 at h
   refine sqQ.m ⟨Zs11 a0 a1 (w64 v1) v68 v69 (.v (.int .u8 v1)) (decide (w64 v1 ≥ 240)) (u2 ((dI (w64 v1))::(dB (decide (w64 v1 ≥ 224)))::d70::d71::d72::d73::d74::d75::d76::d77::u38 [])), []⟩ ?_
   exact J30j16 v68 v69 _ _ _ _ _ _ _ _ _ _ _ _ h
  refine Wp.cd h [0, 1, 4, 6, 7] 0 (fun h => ?_) (fun h => ?_)
  ·refine Wp.sq (Wp.rg (Ops.sg 1 1 (Ops.dn (seqQ.n (Wp.rg (Ops.sg 3 3 (Ops.dn (sqQ.m ⟨(.v (.str a0))::(dI a1)::u2 ((dI 0)::(dI (w64 v1))::(dI 3)::(dI (w64 (w64 v1 - 224)))::u2 ((.v (.str a0))::(dI a1)::(.v (.int .u8 v1))::(dI (w64 v1))::(dI (w64 v1))::(dI (w64 v1))::(dB (decide (w64 v1 ≥ 240)))::u2 ((dI (w64 v1))::(dB (decide (w64 v1 ≥ 224)))::(dI (w64 v1))::(dI (w64 (w64 v1 - 224)))::u40 (u4 [])))), []⟩ ?_))))))))
   exact J30j78 3 (w64 (w64 v1 - 224)) _ _ _ _ _ _ _ _ h
  ·refine Wp.sq (Wp.rg (Ops.sg 2 2 (Ops.dn (seqQ.n ?_))))
   have J30j85 : ∀ (v79 v80 : Int) (d81 d82 d83 d84 : D), f30_j6 m a0 a1 v79 v80 = some o → (sqQ (X30 n) [0, 1, 4, 6, 7] 0 (sqQ (X30 n) [0, 1, 4, 6, 7] 0 (seqQ (X30 n) (cR (cR (cR (cR (cR C30))))) (fnQ (X30 n).E.T (resOf Proofs.Tryz.prog 30) (eI o))))) .normal ⟨Zs11 a0 a1 (w64 v1) v79 v80 (.v (.int .u8 v1)) (decide (w64 v1 ≥ 240)) (u2 ((dI (w64 v1))::(dB (decide (w64 v1 ≥ 224)))::u2 ((dI (w64 v1))::(dB (decide (w64 v1 ≥ 192)))::d81::d82::d83::d84::u38 []))), []⟩ := by
    intro v79 v80 d81 d82 d83 d84 h
    unfold f30_j6 at h
    refine sqQ.m ⟨Zs11 a0 a1 (w64 v1) v79 v80 (.v (.int .u8 v1)) (decide (w64 v1 ≥ 240)) (u2 ((dI (w64 v1))::(dB (decide (w64 v1 ≥ 224)))::u2 ((dI (w64 v1))::(dB (decide (w64 v1 ≥ 192)))::d81::d82::d83::d84::u38 []))), []⟩ ?_
    exact J30j78 v79 v80 _ _ _ _ _ _ _ _ h
   refine Wp.cd h [0, 1, 4, 6, 7] 0 (fun h => ?_) (fun h => ?_)
   ·refine Wp.sq (Wp.rg (Ops.sg 1 1 (Ops.dn (seqQ.n (Wp.rg (Ops.sg 3 3 (Ops.dn (sqQ.m ⟨(.v (.str a0))::(dI a1)::u2 ((dI 0)::(dI (w64 v1))::(dI 2)::(dI (w64 (w64 v1 - 192)))::u2 ((.v (.str a0))::(dI a1)::(.v (.int .u8 v1))::(dI (w64 v1))::(dI (w64 v1))::(dI (w64 v1))::(dB (decide (w64 v1 ≥ 240)))::u2 ((dI (w64 v1))::(dB (decide (w64 v1 ≥ 224)))::u2 ((dI (w64 v1))::(dB (decide (w64 v1 ≥ 192)))::(dI (w64 v1))::(dI (w64 (w64 v1 - 192)))::u40 [])))), []⟩ ?_))))))))
    exact J30j85 2 (w64 (w64 v1 - 192)) _ _ _ _ h
   ·refine Wp.sq (Wp.rg (Ops.sg 2 2 (Ops.dn (seqQ.n ?_))))
    refine Wp.cd h [0, 1, 4, 6, 7] 0 (fun h => ?_) (fun h => ?_)
    ·refine Wp.sq (Wp.rg (Ops.sg 1 1 (Ops.dn (seqQ.n (Wp.rt (sqQ.r (sqQ.r (sqQ.r (sqQ.r (seqQ.r ?_))))))))))
     exact fnQ.r' (X30 n) (fun z => (eI z)) h (RetOk.mk' (dI (-1)) (by kernel_rfl) (by kernel_rfl))
    ·refine Wp.sk (sqQ.n' (sqQ.m ⟨(.v (.str a0))::(dI a1)::u2 ((dI 0)::(dI (w64 v1))::(dI 1)::(dI (w64 v1))::u2 ((.v (.str a0))::(dI a1)::(.v (.int .u8 v1))::(dI (w64 v1))::(dI (w64 v1))::(dI (w64 v1))::(dB (decide (w64 v1 ≥ 240)))::u2 ((dI (w64 v1))::(dB (decide (w64 v1 ≥ 224)))::u2 ((dI (w64 v1))::(dB (decide (w64 v1 ≥ 192)))::u2 ((dI (w64 v1))::(dB (decide (w64 v1 ≥ 128)))::u38 []))))), []⟩ ?_))
     exact J30j85 1 (w64 v1) _ _ _ _ h
def f8_B1 (m : Nat) (a0 : ByteArray) (v12 : (List Int)) (v13 : Int) : Option (Stp ((List Int) × S31) ((List Int) × Int)) :=
 cnd (decide (v13 < (a0.size : Int)))
 (bnd (f30 m a0 v13) fun v23 =>
 cnd (decide (v23 < 0))
 (bnd (f29 m 5 v13) fun v24 =>
 some (.ret (([], v24))))
 (bnd (app 8 v12 [v23]) fun v25 =>
 bnd (f31 m v23) fun v26 =>
 some (.nxt (v25, w64 (v13 + v26)))))
 (some (.brk (v12, v13)))
def f8 (m : Nat) (a0 : ByteArray) : Option ((List Int) × S31) :=
 cnd (decide ((a0.size : Int) > 4000))
 (bnd (f29 m 1 (-1)) fun v1 =>
 some (([], v1)))
 (brk (iter (fun (y : (List Int) × Int) => f8_B1 m a0 y.1 y.2) m ([], 0)) some fun y28 =>
 some ((y28.1, (⟨0, 0⟩ : S31))))
noncomputable abbrev X8 (n : Nat) : Cx := cxOf Proofs.Tryz.prog EG 8 n
noncomputable def C8 : Code := bodyOf Proofs.Tryz.prog 8
theorem ok8 (m : Nat) (a0 : ByteArray) (o : ((List Int) × S31)) (h : f8 m a0 = some o) (n : Nat) (hn : m + 3 ≤ n) : FnK Proofs.Tryz.prog EG n 8 [.v (eS a0)] 1 (List.map eI o.1) (e31 o.2) := by
 obtain ⟨n, rfl⟩ : ∃ q, n = q + 1 := ⟨n - 1, by omega⟩
 unfold f8 at h
 refine FnK.of (by kernel_rfl) (by kernel_rfl) (by kernel_rfl) ⟨(.v (.str a0))::u31 [], []⟩ (by kernel_rfl) (Wp.sq (Wp.rg (Ops.sg 2 2 (Ops.dn (seqQ.n (Wp.sq (Wp.sq (Wp.rg (Ops.sg 3 3 (Ops.dn (seqQ.n ?_)))))))))))
 refine Wp.cd h [0, 2, 3] 1 (fun h => ?_) (fun h => ?_)
 ·refine Wp.sq (Wp.rg ?_)
  obtain ⟨v1, ev1, h⟩ := bnd_some h
  refine Ops.on 1 (fun h0 e0 => (call_ok (E' := EG) (h := h0) (by kernel_rfl) (Args.v (vI 1) (eI 1) (by kernel_rfl) (Args.v (vI (-1)) (eI (-1)) (by kernel_rfl) Args.nil)) (ok29 m 1 (-1) v1 ev1 n (by omega)))) ?_
  refine Ops.sg 2 3 (Ops.dn (seqQ.n (Wp.rt (sqQ.r (seqQ.r ?_)))))
  exact fnQK.r' (X8 n) eI e31 h (RetOkK.nil (.agg [(vI v1.fCode), (vI v1.fIndex)]) (by kernel_rfl))
 ·refine Wp.sk (sqQ.n' (seqQ.n (Wp.sq (Wp.rg (Ops.sg 1 1 (Ops.dn (seqQ.n (Wp.sq (Wp.sq (Wp.rg (Ops.sg 1 1 (Ops.dn (seqQ.n (Wp.bk 0 [2, 3, 4] 2 ?_))))))))))))))
  have hLx27 : ∀ (kx15 : Nat) (v12 : (List Int)) (v13 : Int)  (ox14 : ((List Int) × S31) ⊕ ((List Int) × Int)), iter (fun (y : (List Int) × Int) => f8_B1 m a0 y.1 y.2) kx15 (v12, v13) = some ox14 → ∀ nx16, kx15 ≤ nx16 → (∀ r, ox14 = .inl r → ∀ σ, RetOkK (X8 n) (resOf Proofs.Tryz.prog 8) 1 (List.map eI r.1) (e31 r.2) σ → (seqQ (X8 n) (cR (cR (cR (cR C8)))) (fnQK (X8 n).E.T (resOf Proofs.Tryz.prog 8) 1 (List.map eI o.1) (e31 o.2))) .ret σ) → (∀ (y : (List Int) × Int) , ox14 = .inr y → (seqQ (X8 n) (cR (cR (cR (cR C8)))) (fnQK (X8 n).E.T (resOf Proofs.Tryz.prog 8) 1 (List.map eI o.1) (e31 o.2))) .normal ⟨Zs35 (.v (.sl .nil (List.map eI []))) y.1 (q27 []), [(.cells [(dI 0), (dI 0)]), .dead, (appO 1 (List.map eI y.1))]⟩) → Lp (X8 n) [0, 2, 3, 4, 5] 2 (cL (cL (cR (cL (cR (cR (cR C8))))))) nx16 ⟨Zs16 a0 (.v (.sl .nil (List.map eI []))) ((appD 2 (List.map eI v12))::(dI v13)::q26 []), [(.cells [(dI 0), (dI 0)]), .dead, (appO 1 (List.map eI v12))]⟩ (blkQ (X8 n) 0 [2, 3, 4] 2 (seqQ (X8 n) (cR (cR (cR (cR C8)))) (fnQK (X8 n).E.T (resOf Proofs.Tryz.prog 8) 1 (List.map eI o.1) (e31 o.2)))) := by
   intro kx15
   induction kx15 with
   | zero => intro v12 v13  ox14 h; exact (iter_zero h).elim
   | succ kx15 ihx17 =>
    intro v12 v13  ox14 h nx16 hnx20 hrx18 hxx19
    obtain ⟨nx16, rfl⟩ : ∃ q, nx16 = q + 1 := ⟨nx16 - 1, by omega⟩
    obtain ⟨sx21, h, hsx22⟩ := iter_some h
    have h : f8_B1 m a0 v12 v13 = some sx21 := h
    unfold f8_B1 at h
    refine Lp.succ (Wp.sq (Wp.sq (Wp.rg (Ops.sg 4 4 (Ops.dn (seqQ.n ?_))))))
    refine Wp.cd h [0, 2, 3, 4, 5] 3 (fun h => ?_) (fun h => ?_)
    ·refine Wp.sk (sqQ.n ⟨Zs16 a0 (.v (.sl .nil (List.map eI []))) ((appD 3 (List.map eI v12))::(dI v13)::q26 []), [(.cells [(dI 0), (dI 0)]), .dead, .dead, (appO 1 (List.map eI v12))]⟩ (by generalize v12 = z0; cases z0 <;> kernel_rfl) (seqQ.n (Wp.bk 1 [0, 2, 3, 4, 5] 4 (Wp.sq (Wp.rg (Ops.sg 2 2 ?_))))))
     obtain ⟨v23, ev23, h⟩ := bnd_some h
     refine Ops.on 3 (fun h0 e0 => (call_ok (E' := EG) (h := h0) (by kernel_rfl) (Args.v (.str a0) (eS a0) (by kernel_rfl) (Args.v (vI v13) (eI v13) (by kernel_rfl) Args.nil)) (ok30 m a0 v13 v23 ev23 n (by omega)))) ?_
     refine Ops.sg 1 4 (Ops.dn (seqQ.n (Wp.sq (Wp.sq (Wp.rg (Ops.sg 2 2 (Ops.dn (seqQ.n ?_))))))))
     refine Wp.cd h [0, 2, 3, 4, 5, 6] 4 (fun h => ?_) (fun h => ?_)
     ·refine Wp.sq (Wp.rg (Ops.sg 1 1 ?_))
      obtain ⟨v24, ev24, h⟩ := bnd_some h
      refine Ops.on 2 (fun h0 e0 => (call_ok (E' := EG) (h := h0) (by kernel_rfl) (Args.v (vI 5) (eI 5) (by kernel_rfl) (Args.v (vI v13) (eI v13) (by kernel_rfl) Args.nil)) (ok29 m 5 v13 v24 ev24 n (by omega)))) ?_
      refine Ops.sg 2 4 (Ops.dn (seqQ.n (Wp.rt (sqQ.r (seqQ.r (blkQ.r ?_))))))
      cases h
      refine lpQ.r (blkQ.r ?_)
      exact hrx18 _ hsx22 _ (RetOkK.forget [0, 2, 3, 4, 5] (by kernel_rfl) (RetOkK.nil (.agg [(vI v24.fCode), (vI v24.fIndex)]) (by kernel_rfl)))
     ·refine Wp.sk (sqQ.n ⟨Zs16 a0 (.v (.sl .nil (List.map eI []))) ((appD 4 (List.map eI v12))::(dI v13)::(dI v23)::q25 []), [(.cells [(dI 0), (dI 0)]), .dead, .dead, .dead, (appO 1 (List.map eI v12))]⟩ (by generalize v12 = z0; cases z0 <;> kernel_rfl) (seqQ.n (Wp.sq (Wp.rg (Ops.sg 3 3 ?_)))))
      obtain ⟨v25, ev25, h⟩ := bnd_some h
      refine Ops.on 4 (fun h0 e0 => (app_r (T := T) (g := .nil) h0 25 3 4 1 ti3 .nonfull eI v12 [v23] v25 ev25 (by kernel_rfl) (by kernel_rfl) (by kernel_rfl) (by kernel_rfl) (fun _ => rfl) (hq_of e0 (by kernel_rfl)))) ?_
      refine Ops.sg 1 5 (Ops.dn (seqQ.n (Wp.rg (Ops.sg 2 2 ?_))))
      obtain ⟨v26, ev26, h⟩ := bnd_some h
      refine Ops.on 3 (fun h0 e0 => (call_ok (E' := EG) (h := h0) (by kernel_rfl) (Args.v (vI v23) (eI v23) (by kernel_rfl) Args.nil) (ok31 m v23 v26 ev26 n (by omega)))) ?_
      refine Ops.sg 2 5 (Ops.dn (blkQ.n ⟨Zs16 a0 (.v (.sl .nil (List.map eI []))) ((appD 4 (List.map eI v25))::(dI (w64 (v13 + v26)))::q26 []), [(.cells [(dI 0), (dI 0)]), .dead, .dead, .dead, (appO 1 (List.map eI v25))]⟩ (by generalize v25 = z0; cases z0 <;> kernel_rfl) (lpQ.n ⟨Zs16 a0 (.v (.sl .nil (List.map eI []))) ((appD 2 (List.map eI v25))::(dI (w64 (v13 + v26)))::q26 []), [(.cells [(dI 0), (dI 0)]), .dead, (appO 1 (List.map eI v25))]⟩ (by generalize v25 = z0; cases z0 <;> kernel_rfl) ?_)))
      cases h
      exact ihx17 v25 (w64 (v13 + v26))  _ hsx22 _ (by omega) hrx18 hxx19
    ·refine Wp.ex 0 (sqQ.x (seqQ.x ?_))
     cases h
     refine lpQ.x (blkQ.x ⟨Zs35 (.v (.sl .nil (List.map eI []))) v12 (q27 []), [(.cells [(dI 0), (dI 0)]), .dead, (appO 1 (List.map eI v12))]⟩ (by generalize v12 = z0; cases z0 <;> kernel_rfl) ?_)
     exact hxx19 (v12, v13)  hsx22
  refine Wp.loop' [0, 2, 3, 4, 5] 2 (by kernel_rfl) ⟨Zs16 a0 (.v (.sl .nil (List.map eI []))) ((appD 2 (List.map eI []))::(dI 0)::q26 []), [(.cells [(dI 0), (dI 0)]), .dead, .dead]⟩ (by kernel_rfl) ?_
  rcases brk_some h with ⟨r29, er29, h⟩ | ⟨y28, ey28, h⟩
  ·refine hLx27 _ [] 0  _ er29 n (by omega) (fun r er σ hσ => ?_) (fun y  ey => by cases ey)
   cases er
   refine seqQ.r ?_
   exact fnQK.r' (X8 n) eI e31 h hσ
  ·refine hLx27 _ [] 0  _ ey28 n (by omega) (fun r er => by cases er) (fun y  ey => ?_)
   cases ey
   refine seqQ.n (Wp.sq (Wp.rg (Ops.sg 4 4 (Ops.dn (seqQ.n (Wp.rt ?_))))))
   exact fnQK.r' (X8 n) eI e31 h (RetOkK.app 2 (List.map eI y28.1) (.agg [(vI 0), (vI 0)]) (by kernel_rfl) (by kernel_rfl))
def f10_B1 (m : Nat) (a0 a1 : (List Int)) (v6 : Int) : Option (Stp Bool (Int)) :=
 cnd (decide (v6 < (a0.length : Int)))
 (bnd (idx a0 v6) fun v16 =>
 bnd (idx a1 v6) fun v17 =>
 cnd (v16 != v17)
 (some (.ret false))
 (some (.nxt (w64 (v6 + 1)))))
 (some (.brk v6))
def f10 (m : Nat) (a0 a1 : (List Int)) : Option Bool :=
 cnd ((a0.length : Int) != (a1.length : Int))
 (some false)
 (brk (iter (fun (y : Int) => f10_B1 m a0 a1 y) m 0) some fun y19 =>
 some true)
noncomputable abbrev X10 (n : Nat) : Cx := cxOf Proofs.Tryz.prog EG 10 n
noncomputable def C10 : Code := bodyOf Proofs.Tryz.prog 10
theorem ok10 (m : Nat) (a0 a1 : (List Int)) (o : Bool) (h : f10 m a0 a1 = some o) (n : Nat) (hn : m + 1 ≤ n) : Fn Proofs.Tryz.prog EG n 10 [.v ((eL eI) a0), .v ((eL eI) a1)] (eB o) := by
 obtain ⟨n, rfl⟩ : ∃ q, n = q + 1 := ⟨n - 1, by omega⟩
 unfold f10 at h
 refine Fn.of (by kernel_rfl) (by kernel_rfl) (by kernel_rfl) ⟨(dP eI a0)::(dP eI a1)::u24 [], []⟩ (by kernel_rfl) (Wp.sq (Wp.rg (Ops.sg 1 1 (Ops.dn (seqQ.n (Wp.sq (Wp.sq (Wp.rg (Ops.sg 1 1 ?_)))))))))
 refine Ops.on 2 (fun h0 e0 => (len_r (T := T) h0 25 3 .plain eI a0 (by kernel_rfl))) ?_
 refine Ops.sg 1 3 ?_
 refine Ops.on 4 (fun h0 e0 => (len_r (T := T) h0 25 3 .plain eI a1 (by kernel_rfl))) ?_
 refine Ops.sg 1 5 (Ops.dn (seqQ.n ?_))
 refine Wp.cd h [0, 1, 4] 0 (fun h => ?_) (fun h => ?_)
 ·refine Wp.sq (Wp.rg (Ops.sg 1 1 (Ops.dn (seqQ.n (Wp.rt (sqQ.r (seqQ.r ?_)))))))
  exact fnQ.r' (X10 n) (fun z => (eB z)) h (RetOk.mk' (dB false) (by kernel_rfl) (by kernel_rfl))
 ·refine Wp.sk (sqQ.n' (seqQ.n (Wp.sq (Wp.sq (Wp.rg (Ops.sg 1 1 ?_))))))
  refine Ops.on 2 (fun h0 e0 => (len_r (T := T) h0 25 3 .plain eI a0 (by kernel_rfl))) ?_
  refine Ops.sg 1 3 (Ops.dn (seqQ.n (Wp.bk 0 [4] 0 ?_)))
  have hLx18 : ∀ (kx8 : Nat) (v6 : Int)  (ox7 : Bool ⊕ (Int)), iter (fun (y : Int) => f10_B1 m a0 a1 y) kx8 v6 = some ox7 → ∀ nx9, kx8 ≤ nx9 → (∀ r, ox7 = .inl r → ∀ σ, RetOk (X10 n) (resOf Proofs.Tryz.prog 10) (eB r) σ → (seqQ (X10 n) (cR (cR (cR C10))) (fnQ (X10 n).E.T (resOf Proofs.Tryz.prog 10) (eB o))) .ret σ) → (∀ (y : Int) , ox7 = .inr y → (seqQ (X10 n) (cR (cR (cR C10))) (fnQ (X10 n).E.T (resOf Proofs.Tryz.prog 10) (eB o))) .normal ⟨Zs31 a0 a1 (a0.length : Int) ((dI y)::q12 []), []⟩) → Lp (X10 n) [0, 1, 4, 12, 13] 0 (cL (cL (cR (cL (cR (cR C10)))))) nx9 ⟨Zs31 a0 a1 (a0.length : Int) ((dI v6)::q12 []), []⟩ (blkQ (X10 n) 0 [4] 0 (seqQ (X10 n) (cR (cR (cR C10))) (fnQ (X10 n).E.T (resOf Proofs.Tryz.prog 10) (eB o)))) := by
   intro kx8
   induction kx8 with
   | zero => intro v6  ox7 h; exact (iter_zero h).elim
   | succ kx8 ihx10 =>
    intro v6  ox7 h nx9 hnx13 hrx11 hxx12
    obtain ⟨nx9, rfl⟩ : ∃ q, nx9 = q + 1 := ⟨nx9 - 1, by omega⟩
    obtain ⟨sx14, h, hsx15⟩ := iter_some h
    have h : f10_B1 m a0 a1 v6 = some sx14 := h
    unfold f10_B1 at h
    refine Lp.succ (Wp.sq (Wp.rg (Ops.sg 1 1 (Ops.dn (seqQ.n (Wp.sq ?_))))))
    refine Wp.cd h [0, 1, 4, 12, 13] 0 (fun h => ?_) (fun h => ?_)
    ·refine Wp.sk (sqQ.n' (seqQ.n (Wp.sq (Wp.bk 1 [0, 1, 4, 12, 13] 0 (Wp.sq (Wp.rg (Ops.sg 2 2 (Ops.dn (seqQ.n (Wp.sq (Wp.rg (Ops.sg 2 2 ?_))))))))))))
     obtain ⟨v16, ev16, h⟩ := bnd_some h
     refine Ops.on 3 (fun h0 e0 => (ix_r (T := T) h0 25 3 1 .plain eI a0 v6 v16 ev16 (by kernel_rfl) (by kernel_rfl) (fun _ => rfl))) ?_
     refine Ops.sg 3 6 ?_
     obtain ⟨v17, ev17, h⟩ := bnd_some h
     refine Ops.on 7 (fun h0 e0 => (ix_r (T := T) h0 25 3 1 .plain eI a1 v6 v17 ev17 (by kernel_rfl) (by kernel_rfl) (fun _ => rfl))) ?_
     refine Ops.sg 2 9 (Ops.dn (seqQ.n ?_))
     refine Wp.cd h [0, 1, 4, 12, 13] 0 (fun h => ?_) (fun h => ?_)
     ·refine Wp.sq (Wp.rg (Ops.sg 1 1 (Ops.dn (seqQ.n (Wp.rt (sqQ.r (blkQ.r (seqQ.r ?_))))))))
      cases h
      refine lpQ.r (blkQ.r ?_)
      exact hrx11 _ hsx15 _ (RetOk.forget [0, 1, 4, 12, 13] (by kernel_rfl) (RetOk.mk' (dB false) (by kernel_rfl) (by kernel_rfl)))
     ·refine Wp.sk (sqQ.n' (blkQ.n' (seqQ.n (Wp.rg (Ops.sg 2 2 (Ops.dn (lpQ.m ⟨Zs31 a0 a1 (a0.length : Int) ((dI (w64 (v6 + 1)))::q12 []), []⟩ ?_)))))))
      cases h
      exact ihx10 (w64 (v6 + 1))  _ hsx15 _ (by omega) hrx11 hxx12
    ·refine Wp.ex 0 (sqQ.x (seqQ.x ?_))
     cases h
     refine lpQ.x (blkQ.w ⟨Zs31 a0 a1 (a0.length : Int) ((dI v6)::q12 []), []⟩ ?_)
     exact hxx12 v6  hsx15
  refine Wp.loop' [0, 1, 4, 12, 13] 0 (by kernel_rfl) ⟨Zs31 a0 a1 (a0.length : Int) ((dI 0)::q12 []), []⟩ (by kernel_rfl) ?_
  rcases brk_some h with ⟨r20, er20, h⟩ | ⟨y19, ey19, h⟩
  ·refine hLx18 _ 0  _ er20 n (by omega) (fun r er σ hσ => ?_) (fun y  ey => by cases ey)
   cases er
   refine seqQ.r ?_
   exact fnQ.r' (X10 n) (fun z => (eB z)) h hσ
  ·refine hLx18 _ 0  _ ey19 n (by omega) (fun r er => by cases er) (fun y  ey => ?_)
   cases ey
   refine seqQ.n (Wp.sq (Wp.rg (Ops.sg 1 1 (Ops.dn (seqQ.n (Wp.rt ?_))))))
   exact fnQ.r' (X10 n) (fun z => (eB z)) h (RetOk.mk' (dB true) (by kernel_rfl) (by kernel_rfl))
noncomputable def f3_r1 (m : Nat) (v62 : Int) (v93 : Bool) : Option (Stp Bool (Bool × Int)) :=
 some (.nxt (v93, w64 (v62 + 1)))
noncomputable def f3_r2 (m : Nat) (a1 : (List Int)) (v61 : Bool) (v62 : Int) (v73 : ((List Int) × S31)) (v85 : Bool) : Option (Stp Bool (Bool × Int)) :=
 cnd v85
 (some (.ret false))
 (bnd (cnd v61
 (some true)
 (bnd (f10 m v73.1 a1) fun v95 =>
 some v95)) fun v93 =>
 f3_r1 m v62 v93)
noncomputable def f3_B3 (m : Nat) (a1 : (List Int)) (v3 : (S29 × S31)) (v4 : ((List S40) × S31)) (v61 : Bool) (v62 : Int) : Option (Stp Bool (Bool × Int)) :=
 cnd (decide (v62 < (v4.1.length : Int)))
 (bnd (idx v4.1 v62) fun v72 =>
 bnd (f8 m v72.fForm) fun v73 =>
 bnd (cnd (!((v73.2.fCode == 0) && ((v73.2.fIndex == 0) && true)))
 (some true)
 (cnd (decide (v62 < 20))
 (bnd (f9 m v3.1 v73.1) fun v98 =>
 some (!v98))
 (some false))) fun v85 =>
 f3_r2 m a1 v61 v62 v73 v85)
 (some (.brk (v61, v62)))
noncomputable def f3_r4 (m : Nat) (a1 : (List Int)) (v3 : (S29 × S31)) (y100 : Bool × Int) (v110 : Bool) : Option Bool :=
 cnd v110
 (some true)
 (bnd (f9 m v3.1 a1) fun v112 =>
 some (v112 == y100.1))
noncomputable def f3_r5 (m : Nat) (a0 : S23) (a1 : (List Int)) (v3 : (S29 × S31)) (v4 : ((List S40) × S31)) (v11 : Bool) : Option Bool :=
 cnd v11
 (some (!((v4.2.fCode == 0) && ((v4.2.fIndex == 0) && true))))
 (brk (iter (fun (y : Bool × Int) => f3_B3 m a1 v3 v4 y.1 y.2) m (false, 0)) some fun y100 =>
 bnd (f11 m a0) fun v102 =>
 f3_r4 m a1 v3 y100 (v102 || (decide ((a0.fClasses.length : Int) > 4))))
noncomputable def f3 (m : Nat) (a0 : S23) (a1 : (List Int)) : Option Bool :=
 bnd (f4 m ) fun v1 =>
 cnd (!v1)
 (some false)
 (bnd (f5 m a0) fun v2 =>
 cnd (!((v2.2.fCode == 0) && ((v2.2.fIndex == 0) && true)))
 (some true)
 (bnd (f6 m v2.1) fun v3 =>
 bnd (f7 m a0 4) fun v4 =>
 f3_r5 m a0 a1 v3 v4 ((!((v3.2.fCode == 0) && ((v3.2.fIndex == 0) && true))) || (!((v4.2.fCode == 0) && ((v4.2.fIndex == 0) && true))))))
noncomputable abbrev X3 (n : Nat) : Cx := cxOf Proofs.Tryz.prog EG 3 n
noncomputable def C3 : Code := bodyOf Proofs.Tryz.prog 3
noncomputable abbrev p3_0 : Code := cR (cR (cR (cR (cR (cR (cR (cR (cR C3))))))))
abbrev b3_0 (w0 : S23) : AObj := .cells [(dP e55 w0.fClasses)]
abbrev b3_1 (w0 : (S29 × S31)) : AObj := .cells [(dI w0.1.fStates), (dP e61 w0.1.fArcs), (dP e52 w0.1.fFinals)]
abbrev b3_2 (w0 : (S29 × S31)) : AObj := .cells [(dI w0.2.fCode), (dI w0.2.fIndex)]
abbrev b3_3 (w0 : ((List S40) × S31)) : AObj := .cells [(dI w0.2.fCode), (dI w0.2.fIndex)]
abbrev b3_4 (w0 : S40) : AObj := .cells [(.v (.str w0.fBase)), (.v (.str w0.fForm)), (dP eS w0.fTags), (dI w0.fWeight)]
abbrev b3_5 (w0 : ((List Int) × S31)) : AObj := .cells [(dI w0.2.fCode), (dI w0.2.fIndex)]
abbrev k3_0 : List Nat := [1, 2, 4, 7, 11, 47, 48, 49]
theorem ok3 (m : Nat) (a0 : S23) (a1 : (List Int)) (o : Bool) (h : f3 m a0 a1 = some o) (n : Nat) (hn : m + 7 ≤ n) : Fn Proofs.Tryz.prog EG n 3 [.v (e23 a0), .v ((eL eI) a1)] (eB o) := by
 obtain ⟨n, rfl⟩ : ∃ q, n = q + 1 := ⟨n - 1, by omega⟩
 unfold f3 at h
 refine Fn.of (by kernel_rfl) (by kernel_rfl) (by kernel_rfl) ⟨(.v (.agg [(vP e55 a0.fClasses)]))::(dP eI a1)::u40 (u40 (u11 [])), []⟩ (by kernel_rfl) (Wp.sq (Wp.rg (Ops.sg 2 2 (Ops.dn (seqQ.n (Wp.sq (Wp.sq (Wp.rg ?_))))))))
 obtain ⟨v1, ev1, h⟩ := bnd_some h
 refine Ops.on 1 (fun h0 e0 => (call_ok (E' := EG) (h := h0) (by kernel_rfl) Args.nil (ok4 m  v1 ev1 n (by omega)))) ?_
 refine Ops.sg 1 2 (Ops.dn (seqQ.n ?_))
 refine Wp.cd h [1, 2, 4] 1 (fun h => ?_) (fun h => ?_)
 ·refine Wp.sq (Wp.rg (Ops.sg 1 1 (Ops.dn (seqQ.n (Wp.rt (sqQ.r (seqQ.r ?_)))))))
  exact fnQ.r' (X3 n) (fun z => (eB z)) h (RetOk.mk' (dB false) (by kernel_rfl) (by kernel_rfl))
 ·refine Wp.sk (sqQ.n' (seqQ.n (Wp.sq (Wp.rg (Ops.sg 1 1 ?_)))))
  obtain ⟨v2, ev2, h⟩ := bnd_some h
  refine Ops.on 2 (fun h0 e0 => (call_ok (E' := EG) (h := h0) (by kernel_rfl) (Args.v (.agg [(vP e55 a0.fClasses)]) (e23 a0) (by kernel_rfl) Args.nil) (ok5 m a0 v2 ev2 n (by omega)))) ?_
  refine Ops.sg 7 9 (Ops.dn (seqQ.n (Wp.sq (Wp.sq (Wp.rg (Ops.sg 3 3 (Ops.dn (seqQ.n ?_))))))))
  refine Wp.cd h [1, 2, 4, 5] 3 (fun h => ?_) (fun h => ?_)
  ·refine Wp.sq (Wp.rg (Ops.sg 1 1 (Ops.dn (seqQ.n (Wp.rt (sqQ.r (seqQ.r ?_)))))))
   exact fnQ.r' (X3 n) (fun z => (eB z)) h (RetOk.mk' (dB true) (by kernel_rfl) (by kernel_rfl))
  ·refine Wp.sk (sqQ.n' (seqQ.n (Wp.sq (Wp.rg (Ops.sg 1 1 ?_)))))
   obtain ⟨v3, ev3, h⟩ := bnd_some h
   refine Ops.on 2 (fun h0 e0 => (call_ok (E' := EG) (h := h0) (by kernel_rfl) (Args.v (.agg [(vI v2.1.fStates), (vP e61 v2.1.fArcs), (vP e52 v2.1.fFinals)]) (e29 v2.1) (by kernel_rfl) Args.nil) (ok6 m v2.1 v3 ev3 n (by omega)))) ?_
   refine Ops.sg 7 9 (Ops.dn (seqQ.n (Wp.sq (Wp.rg (Ops.sg 1 1 ?_)))))
   obtain ⟨v4, ev4, h⟩ := bnd_some h
   refine Ops.on 2 (fun h0 e0 => (call_ok (E' := EG) (h := h0) (by kernel_rfl) (Args.v (.agg [(vP e55 a0.fClasses)]) (e23 a0) (by kernel_rfl) (Args.v (vI 4) (eI 4) (by kernel_rfl) Args.nil)) (ok7 m a0 4 v4 ev4 n (by omega)))) ?_
   refine Ops.seg 6 8 (by kernel_rfl) ⟨Zs3 (.v (.agg [(vP e55 a0.fClasses)])) a1 v4.1 v1 (!v1) (.v (.tuple [(.agg [(vI v2.1.fStates), (vP e61 v2.1.fArcs), (vP e52 v2.1.fFinals)]), (.agg [(vI v2.2.fCode), (vI v2.2.fIndex)])])) (.v (.agg [(vI v2.1.fStates), (vP e61 v2.1.fArcs), (vP e52 v2.1.fFinals)])) (.v (.agg [(vI v2.2.fCode), (vI v2.2.fIndex)])) (.v (.agg [(vI 0), (vI 0)])) (!((v2.2.fCode == 0) && ((v2.2.fIndex == 0) && true))) (.v (.tuple [(.agg [(vI v3.1.fStates), (vP e61 v3.1.fArcs), (vP e52 v3.1.fFinals)]), (.agg [(vI v3.2.fCode), (vI v3.2.fIndex)])])) (.v (.agg [(vI v3.1.fStates), (vP e61 v3.1.fArcs), (vP e52 v3.1.fFinals)])) (.v (.agg [(vI v3.2.fCode), (vI v3.2.fIndex)])) (.v (.tuple [(vP e40 v4.1), (.agg [(vI v4.2.fCode), (vI v4.2.fIndex)])])) ((.v (.agg [(vI v4.2.fCode), (vI v4.2.fIndex)]))::u40 (u17 [])), [(b3_0 a0), (b3_1 v2), (b3_2 v2), (b3_1 v3), (b3_2 v3), (b3_3 v4)]⟩ (by kernel_rfl) (Ops.dn (seqQ.n (Wp.sq (Wp.sq (Wp.rg (Ops.sg 4 4 ?_))))))
   refine Ops.hv (fun KQ => ∀ (d7 d8 d9 : D) (v10 v11 : Bool), f3_r5 m a0 a1 v3 v4 v11 = some o → KQ 8 ⟨Zs3 (.v (.agg [(vP e55 a0.fClasses)])) a1 v4.1 v1 (!v1) (.v (.tuple [(.agg [(vI v2.1.fStates), (vP e61 v2.1.fArcs), (vP e52 v2.1.fFinals)]), (.agg [(vI v2.2.fCode), (vI v2.2.fIndex)])])) (.v (.agg [(vI v2.1.fStates), (vP e61 v2.1.fArcs), (vP e52 v2.1.fFinals)])) (.v (.agg [(vI v2.2.fCode), (vI v2.2.fIndex)])) (.v (.agg [(vI 0), (vI 0)])) (!((v2.2.fCode == 0) && ((v2.2.fIndex == 0) && true))) (.v (.tuple [(.agg [(vI v3.1.fStates), (vP e61 v3.1.fArcs), (vP e52 v3.1.fFinals)]), (.agg [(vI v3.2.fCode), (vI v3.2.fIndex)])])) (.v (.agg [(vI v3.1.fStates), (vP e61 v3.1.fArcs), (vP e52 v3.1.fFinals)])) (.v (.agg [(vI v3.2.fCode), (vI v3.2.fIndex)])) (.v (.tuple [(vP e40 v4.1), (.agg [(vI v4.2.fCode), (vI v4.2.fIndex)])])) ((.v (.agg [(vI v4.2.fCode), (vI v4.2.fIndex)]))::(.v (.agg [(vI v3.2.fCode), (vI v3.2.fIndex)]))::(.v (.agg [(vI 0), (vI 0)]))::(dB v10)::(dB v10)::d7::d8::d9::(dB v11)::u40 (u9 [])), [(b3_0 a0), (b3_1 v2), (b3_2 v2), (b3_1 v3), (b3_2 v3), (b3_3 v4)]⟩) ?_ fun J3j12 => ?_
   ·intro d7 d8 d9 v10 v11 h
    unfold f3_r5 at h
    refine Ops.dn (seqQ.n ?_)
    refine Wp.cd h [1, 2, 4, 7, 9] 6 (fun h => ?_) (fun h => ?_)
    ·refine Wp.sq (Wp.rg (Ops.sg 4 4 (Ops.dn (seqQ.n (Wp.rt (sqQ.r (seqQ.r ?_)))))))
     exact fnQ.r' (X3 n) (fun z => (eB z)) h (RetOk.mk' (dB (!((v4.2.fCode == 0) && ((v4.2.fIndex == 0) && true)))) (by kernel_rfl) (by kernel_rfl))
    ·refine Wp.sk (sqQ.n' (seqQ.n (Wp.sq (Wp.rg (Ops.sg 1 1 (Ops.dn (seqQ.n (Wp.sq (Wp.sq (Wp.rg (Ops.sg 1 1 ?_)))))))))))
     refine Ops.on 2 (fun h0 e0 => (len_r (T := T) h0 36 41 .plain e40 v4.1 (by kernel_rfl))) ?_
     refine Ops.sg 1 3 (Ops.dn (seqQ.n (Wp.bk 0 [1, 2, 4, 7, 11] 6 ?_)))
     have hLx99 : ∀ (kx64 : Nat) (v61 : Bool) (v62 : Int)  (ox63 : Bool ⊕ (Bool × Int)), iter (fun (y : Bool × Int) => f3_B3 m a1 v3 v4 y.1 y.2) kx64 (v61, v62) = some ox63 → ∀ nx65, kx64 ≤ nx65 → (∀ r, ox63 = .inl r → ∀ σ, RetOk (X3 n) (resOf Proofs.Tryz.prog 3) (eB r) σ → (seqQ (X3 n) p3_0 (fnQ (X3 n).E.T (resOf Proofs.Tryz.prog 3) (eB o))) .ret σ) → (∀ (y : Bool × Int) , ox63 = .inr y → (seqQ (X3 n) p3_0 (fnQ (X3 n).E.T (resOf Proofs.Tryz.prog 3) (eB o))) .normal ⟨Zs13 a1 y.1 v4.1 (v4.1.length : Int) y.2 (q40 (q3 [])), [(b3_0 a0), (b3_1 v2), (b3_2 v2), (b3_1 v3), (b3_2 v3), (b3_3 v4)]⟩) → Lp (X3 n) k3_0 6 (cL (cL (cR (cL (cR (cR (cR (cR (cR (cR (cR (cR C3)))))))))))) nx65 ⟨Zs13 a1 v61 v4.1 (v4.1.length : Int) v62 (q40 (q3 [])), [(b3_0 a0), (b3_1 v2), (b3_2 v2), (b3_1 v3), (b3_2 v3), (b3_3 v4)]⟩ (blkQ (X3 n) 0 [1, 2, 4, 7, 11] 6 (seqQ (X3 n) p3_0 (fnQ (X3 n).E.T (resOf Proofs.Tryz.prog 3) (eB o)))) := by
      intro kx64
      induction kx64 with
      | zero => intro v61 v62  ox63 h; exact (iter_zero h).elim
      | succ kx64 ihx66 =>
       intro v61 v62  ox63 h nx65 hnx69 hrx67 hxx68
       obtain ⟨nx65, rfl⟩ : ∃ q, nx65 = q + 1 := ⟨nx65 - 1, by omega⟩
       obtain ⟨sx70, h, hsx71⟩ := iter_some h
       have h : f3_B3 m a1 v3 v4 v61 v62 = some sx70 := h
       unfold f3_B3 at h
       refine Lp.succ (Wp.sq (Wp.rg (Ops.sg 1 1 (Ops.dn (seqQ.n (Wp.sq ?_))))))
       refine Wp.cd h k3_0 6 (fun h => ?_) (fun h => ?_)
       ·refine Wp.sk (sqQ.n' (seqQ.n (Wp.sq (Wp.bk 1 k3_0 6 (Wp.sq (Wp.rg (Ops.sg 1 1 ?_)))))))
        obtain ⟨v72, ev72, h⟩ := bnd_some h
        refine Ops.on 2 (fun h0 e0 => (ix_r (T := T) h0 36 41 4 .plain e40 v4.1 v62 v72 ev72 (by kernel_rfl) (by kernel_rfl) (fun _ => rfl))) ?_
        refine Ops.sg 4 6 (Ops.dn (seqQ.n (Wp.sq (Wp.rg (Ops.sg 2 2 ?_)))))
        obtain ⟨v73, ev73, h⟩ := bnd_some h
        refine Ops.on 3 (fun h0 e0 => (call_keep (E' := EG) (h := h0) (by kernel_rfl) (by kernel_rfl) (by kernel_rfl) (ArgsC.cons (.v (.str v72.fForm)) (.v (eS v72.fForm)) (by kernel_rfl) ArgsC.nil) (ok8 m v72.fForm v73 ev73 n (by omega)))) ?_
        refine Ops.sg 6 9 (Ops.dn (seqQ.n (Wp.sq (Wp.sq (Wp.rg (Ops.sg 4 4 ?_))))))
        refine Ops.hv (fun KQ => ∀ (d76 d77 d78 d79 d80 d81 d82 d83 : D) (v84 v85 : Bool), f3_r2 m a1 v61 v62 v73 v85 = some sx70 → KQ 13 ⟨Zs1 a1 v61 v62 v73.1 v4.1 (v4.1.length : Int) (decide (v62 < (v4.1.length : Int))) (.vptr [(.str v72.fBase), (.str v72.fForm), (vP eS v72.fTags), (vI v72.fWeight)]) (.v (.agg [(.str v72.fBase), (.str v72.fForm), (vP eS v72.fTags), (vI v72.fWeight)])) (.tuple [(appD 7 (List.map eI v73.1)), (.v (.agg [(vI v73.2.fCode), (vI v73.2.fIndex)]))]) v72.fForm (.v (.agg [(vI v73.2.fCode), (vI v73.2.fIndex)])) (.v (.agg [(vI 0), (vI 0)])) ((dB v84)::(dB v84)::d76::d77::d78::d79::d80::d81::d82::d83::(dB v85)::q20 []), [(b3_0 a0), (b3_1 v2), (b3_2 v2), (b3_1 v3), (b3_2 v3), (b3_3 v4), (b3_4 v72), (appO 1 (List.map eI v73.1)), (b3_5 v73)]⟩) ?_ fun J3j86 => ?_
        ·intro d76 d77 d78 d79 d80 d81 d82 d83 v84 v85 h
         unfold f3_r2 at h
         refine Ops.dn (seqQ.n ?_)
         refine Wp.cd h [1, 2, 4, 7, 11, 14, 47, 48, 49] 9 (fun h => ?_) (fun h => ?_)
         ·refine Wp.sq (Wp.rg (Ops.sg 1 1 (Ops.dn (seqQ.n (Wp.rt (sqQ.r (seqQ.r (blkQ.r (seqQ.r ?_)))))))))
          cases h
          refine lpQ.r (blkQ.r ?_)
          exact hrx67 _ hsx71 _ (RetOk.forget k3_0 (by kernel_rfl) (RetOk.mk' (dB false) (by kernel_rfl) (by kernel_rfl)))
         ·refine Wp.sk (sqQ.n ⟨Zs1 a1 v61 v62 v73.1 v4.1 (v4.1.length : Int) (decide (v62 < (v4.1.length : Int))) (.vptr [(.str v72.fBase), (.str v72.fForm), (vP eS v72.fTags), (vI v72.fWeight)]) (.v (.agg [(.str v72.fBase), (.str v72.fForm), (vP eS v72.fTags), (vI v72.fWeight)])) (.tuple [(appD 7 (List.map eI v73.1)), (.v (.agg [(vI v73.2.fCode), (vI v73.2.fIndex)]))]) v72.fForm (.v (.agg [(vI v73.2.fCode), (vI v73.2.fIndex)])) (.v (.agg [(vI 0), (vI 0)])) ((dB v84)::(dB v84)::d76::d77::d78::d79::d80::d81::d82::d83::(dB v85)::q20 []), [(b3_0 a0), (b3_1 v2), (b3_2 v2), (b3_1 v3), (b3_2 v3), (b3_3 v4), (b3_4 v72), (appO 1 (List.map eI v73.1)), (b3_5 v73)]⟩ (by generalize v73.1 = z0; cases z0 <;> kernel_rfl) (seqQ.n (Wp.rg (Ops.sg 2 2 ?_))))
          refine Ops.hv (fun KQ => ∀ (d89 d90 d91 : D) (v92 v93 : Bool), f3_r1 m v62 v93 = some sx70 → KQ 6 ⟨Zs1 a1 v92 v62 v73.1 v4.1 (v4.1.length : Int) (decide (v62 < (v4.1.length : Int))) (.vptr [(.str v72.fBase), (.str v72.fForm), (vP eS v72.fTags), (vI v72.fWeight)]) (.v (.agg [(.str v72.fBase), (.str v72.fForm), (vP eS v72.fTags), (vI v72.fWeight)])) (.tuple [(appD 7 (List.map eI v73.1)), (.v (.agg [(vI v73.2.fCode), (vI v73.2.fIndex)]))]) v72.fForm (.v (.agg [(vI v73.2.fCode), (vI v73.2.fIndex)])) (.v (.agg [(vI 0), (vI 0)])) ((dB v84)::(dB v84)::d76::d77::d78::d79::d80::d81::d82::d83::(dB v85)::(dB v92)::(dB v92)::d89::d90::d91::(dB v93)::q14 []), [(b3_0 a0), (b3_1 v2), (b3_2 v2), (b3_1 v3), (b3_2 v3), (b3_3 v4), (b3_4 v72), (appO 1 (List.map eI v73.1)), (b3_5 v73)]⟩) ?_ fun J3j94 => ?_
          ·intro d89 d90 d91 v92 v93 h
           unfold f3_r1 at h
           refine Ops.sg 1 7 (Ops.dn (blkQ.n' (seqQ.n (Wp.rg (Ops.sg 2 2 (Ops.dn (lpQ.m ⟨Zs13 a1 v93 v4.1 (v4.1.length : Int) (w64 (v62 + 1)) (q40 (q3 [])), [(b3_0 a0), (b3_1 v2), (b3_2 v2), (b3_1 v3), (b3_2 v3), (b3_3 v4)]⟩ ?_)))))))
           cases h
           exact ihx66 v93 (w64 (v62 + 1))  _ hsx71 _ (by omega) hrx67 hxx68
          obtain ⟨v93, ev93, h⟩ := bnd_some h
          refine Ops.hv (fun KQ => ∀ v87 : Bool, (cnd v87 (some true) (bnd (f10 m v73.1 a1) fun v95 => some v95)) = some v93 → KQ 2 ⟨Zs1 a1 v87 v62 v73.1 v4.1 (v4.1.length : Int) (decide (v62 < (v4.1.length : Int))) (.vptr [(.str v72.fBase), (.str v72.fForm), (vP eS v72.fTags), (vI v72.fWeight)]) (.v (.agg [(.str v72.fBase), (.str v72.fForm), (vP eS v72.fTags), (vI v72.fWeight)])) (.tuple [(appD 7 (List.map eI v73.1)), (.v (.agg [(vI v73.2.fCode), (vI v73.2.fIndex)]))]) v72.fForm (.v (.agg [(vI v73.2.fCode), (vI v73.2.fIndex)])) (.v (.agg [(vI 0), (vI 0)])) ((dB v84)::(dB v84)::d76::d77::d78::d79::d80::d81::d82::d83::(dB v85)::(dB v87)::(dB v87)::q18 []), [(b3_0 a0), (b3_1 v2), (b3_2 v2), (b3_1 v3), (b3_2 v3), (b3_3 v4), (b3_4 v72), (appO 1 (List.map eI v73.1)), (b3_5 v73)]⟩) ?_ fun G3g88 => Ops.sx (G3g88 v61 ev93)
          intro v87 ev93
          cases v87
          ·have ev93 := cnd_f ev93
           refine Ops.sg 2 4 ?_
           obtain ⟨v95, ev95, ev93⟩ := bnd_some ev93
           refine Ops.on 5 (fun h0 e0 => (call_ok (E' := EG) (h := h0) (by kernel_rfl) (Args.app (g := .nil) 7 (List.map eI v73.1) (Args.v (vP eI a1) ((eL eI) a1) (by kernel_rfl) Args.nil)) (ok10 m v73.1 a1 v95 ev95 n (by omega)))) ?_
           refine Ops.sg 1 6 ?_
           exact Ops.sx (J3j94 (appD 7 (List.map eI v73.1)) (dP eI a1) (dB v95) false v95 (some_sub (fun v93 => f3_r1 m v62 v93 = some sx70) ev93 h))
          ·have ev93 := cnd_t ev93
           refine Ops.sg 4 6 ?_
           exact Ops.sx (J3j94 U U U true true (some_sub (fun v93 => f3_r1 m v62 v93 = some sx70) ev93 h))
        obtain ⟨v85, ev85, h⟩ := bnd_some h
        refine Ops.hv (fun KQ => ∀ v74 : Bool, (cnd v74 (some true) (cnd (decide (v62 < 20)) (bnd (f9 m v3.1 v73.1) fun v98 => some (!v98)) (some false))) = some v85 → KQ 4 ⟨Zs1 a1 v61 v62 v73.1 v4.1 (v4.1.length : Int) (decide (v62 < (v4.1.length : Int))) (.vptr [(.str v72.fBase), (.str v72.fForm), (vP eS v72.fTags), (vI v72.fWeight)]) (.v (.agg [(.str v72.fBase), (.str v72.fForm), (vP eS v72.fTags), (vI v72.fWeight)])) (.tuple [(appD 7 (List.map eI v73.1)), (.v (.agg [(vI v73.2.fCode), (vI v73.2.fIndex)]))]) v72.fForm (.v (.agg [(vI v73.2.fCode), (vI v73.2.fIndex)])) (.v (.agg [(vI 0), (vI 0)])) ((dB v74)::(dB v74)::q29 []), [(b3_0 a0), (b3_1 v2), (b3_2 v2), (b3_1 v3), (b3_2 v3), (b3_3 v4), (b3_4 v72), (appO 1 (List.map eI v73.1)), (b3_5 v73)]⟩) ?_ fun G3g75 => Ops.sx (G3g75 (!((v73.2.fCode == 0) && ((v73.2.fIndex == 0) && true))) ev85)
        intro v74 ev85
        cases v74
        ·have ev85 := cnd_f ev85
         refine Ops.sg 3 7 ?_
         refine Ops.hv (fun KQ => ∀ v96 : Bool, (cnd v96 (bnd (f9 m v3.1 v73.1) fun v98 => some (!v98)) (some false)) = some v85 → KQ 7 ⟨Zs1 a1 v61 v62 v73.1 v4.1 (v4.1.length : Int) (decide (v62 < (v4.1.length : Int))) (.vptr [(.str v72.fBase), (.str v72.fForm), (vP eS v72.fTags), (vI v72.fWeight)]) (.v (.agg [(.str v72.fBase), (.str v72.fForm), (vP eS v72.fTags), (vI v72.fWeight)])) (.tuple [(appD 7 (List.map eI v73.1)), (.v (.agg [(vI v73.2.fCode), (vI v73.2.fIndex)]))]) v72.fForm (.v (.agg [(vI v73.2.fCode), (vI v73.2.fIndex)])) (.v (.agg [(vI 0), (vI 0)])) ((dB false)::(dB false)::(dI v62)::(dB v96)::(dB v96)::q26 []), [(b3_0 a0), (b3_1 v2), (b3_2 v2), (b3_1 v3), (b3_2 v3), (b3_3 v4), (b3_4 v72), (appO 1 (List.map eI v73.1)), (b3_5 v73)]⟩) ?_ fun G3g97 => Ops.sx (G3g97 (decide (v62 < 20)) ev85)
         intro v96 ev85
         cases v96
         ·have ev85 := cnd_f ev85
          refine Ops.sg 6 13 ?_
          exact Ops.sx (J3j86 (dI v62) (dB false) (dB false) U U U U (dB false) false false (some_sub (fun v85 => f3_r2 m a1 v61 v62 v73 v85 = some sx70) ev85 h))
         ·have ev85 := cnd_t ev85
          refine Ops.sg 2 9 ?_
          obtain ⟨v98, ev98, ev85⟩ := bnd_some ev85
          refine Ops.on 10 (fun h0 e0 => (call_ok (E' := EG) (h := h0) (by kernel_rfl) (Args.v (.agg [(vI v3.1.fStates), (vP e61 v3.1.fArcs), (vP e52 v3.1.fFinals)]) (e29 v3.1) (by kernel_rfl) (Args.app (g := .nil) 7 (List.map eI v73.1) Args.nil)) (ok9 m v3.1 v73.1 v98 ev98 n (by omega)))) ?_
          refine Ops.sg 3 13 ?_
          exact Ops.sx (J3j86 (dI v62) (dB true) (dB true) ((.v (.agg [(vI v3.1.fStates), (vP e61 v3.1.fArcs), (vP e52 v3.1.fFinals)]))) (appD 7 (List.map eI v73.1)) (dB v98) (dB (!v98)) (dB (!v98)) false (!v98) (some_sub (fun v85 => f3_r2 m a1 v61 v62 v73 v85 = some sx70) ev85 h))
        ·have ev85 := cnd_t ev85
         refine Ops.sg 9 13 ?_
         exact Ops.sx (J3j86 U U U U U U U U true true (some_sub (fun v85 => f3_r2 m a1 v61 v62 v73 v85 = some sx70) ev85 h))
       ·refine Wp.ex 0 (sqQ.x (seqQ.x ?_))
        cases h
        refine lpQ.x (blkQ.w ⟨Zs13 a1 v61 v4.1 (v4.1.length : Int) v62 (q40 (q3 [])), [(b3_0 a0), (b3_1 v2), (b3_2 v2), (b3_1 v3), (b3_2 v3), (b3_3 v4)]⟩ ?_)
        exact hxx68 (v61, v62)  hsx71
     refine Wp.loop' k3_0 6 (by kernel_rfl) ⟨q1 ((dP eI a1)::(.ptr 0 0)::q1 ((dB false)::q2 ((.ptr 3 0)::q3 ((dB false)::q35 ((dP e40 v4.1)::(dI (v4.1.length : Int))::(dI 0)::q40 (q3 [])))))), [(b3_0 a0), (b3_1 v2), (b3_2 v2), (b3_1 v3), (b3_2 v3), (b3_3 v4)]⟩ (by kernel_rfl) ?_
     rcases brk_some h with ⟨r101, er101, h⟩ | ⟨y100, ey100, h⟩
     ·refine hLx99 _ false 0  _ er101 n (by omega) (fun r er σ hσ => ?_) (fun y  ey => by cases ey)
      cases er
      refine seqQ.r ?_
      exact fnQ.r' (X3 n) (fun z => (eB z)) h hσ
     ·refine hLx99 _ false 0  _ ey100 n (by omega) (fun r er => by cases er) (fun y  ey => ?_)
      cases ey
      refine seqQ.n (Wp.sq (Wp.sq (Wp.rg (Ops.sg 1 1 ?_))))
      obtain ⟨v102, ev102, h⟩ := bnd_some h
      refine Ops.on 2 (fun h0 e0 => (call_ok (E' := EG) (h := h0) (by kernel_rfl) (Args.v (.agg [(vP e55 a0.fClasses)]) (e23 a0) (by kernel_rfl) Args.nil) (ok11 m a0 v102 ev102 n (by omega)))) ?_
      refine Ops.sg 1 3 ?_
      refine Ops.hv (fun KQ => ∀ (d105 d106 d107 d108 : D) (v109 v110 : Bool), f3_r4 m a1 v3 y100 v110 = some o → KQ 8 ⟨Zs13 a1 y100.1 v4.1 (v4.1.length : Int) y100.2 (q30 ((.v (.agg [(vP e55 a0.fClasses)]))::(dB v109)::(dB v109)::d105::d106::d107::d108::(dB v110)::q5 [])), [(b3_0 a0), (b3_1 v2), (b3_2 v2), (b3_1 v3), (b3_2 v3), (b3_3 v4)]⟩) ?_ fun J3j111 => ?_
      ·intro d105 d106 d107 d108 v109 v110 h
       unfold f3_r4 at h
       refine Ops.dn (seqQ.n ?_)
       refine Wp.cd h [1, 4, 7, 11] 6 (fun h => ?_) (fun h => ?_)
       ·refine Wp.sq (Wp.rg (Ops.sg 1 1 (Ops.dn (seqQ.n (Wp.rt (sqQ.r (seqQ.r ?_)))))))
        exact fnQ.r' (X3 n) (fun z => (eB z)) h (RetOk.mk' (dB true) (by kernel_rfl) (by kernel_rfl))
       ·refine Wp.sk (sqQ.n' (seqQ.n (Wp.sq (Wp.rg (Ops.sg 2 2 ?_)))))
        obtain ⟨v112, ev112, h⟩ := bnd_some h
        refine Ops.on 3 (fun h0 e0 => (call_ok (E' := EG) (h := h0) (by kernel_rfl) (Args.v (.agg [(vI v3.1.fStates), (vP e61 v3.1.fArcs), (vP e52 v3.1.fFinals)]) (e29 v3.1) (by kernel_rfl) (Args.v (vP eI a1) ((eL eI) a1) (by kernel_rfl) Args.nil)) (ok9 m v3.1 a1 v112 ev112 n (by omega)))) ?_
        refine Ops.sg 3 6 (Ops.dn (seqQ.n (Wp.rt ?_)))
        exact fnQ.r' (X3 n) (fun z => (eB z)) h (RetOk.mk' (dB (v112 == y100.1)) (by kernel_rfl) (by kernel_rfl))
      refine Ops.hv (fun KQ => ∀ v103 : Bool, f3_r4 m a1 v3 y100 (v103 || (decide ((a0.fClasses.length : Int) > 4))) = some o → KQ 3 ⟨Zs13 a1 y100.1 v4.1 (v4.1.length : Int) y100.2 (q30 ((.v (.agg [(vP e55 a0.fClasses)]))::(dB v103)::(dB v103)::q10 [])), [(b3_0 a0), (b3_1 v2), (b3_2 v2), (b3_1 v3), (b3_2 v3), (b3_3 v4)]⟩) ?_ fun G3g104 => Ops.sx (G3g104 v102 h)
      intro v103 h
      cases v103
      ·refine Ops.sg 2 5 ?_
       refine Ops.on 6 (fun h0 e0 => (len_r (T := T) h0 22 56 .plain e55 a0.fClasses (by kernel_rfl))) ?_
       refine Ops.sg 2 8 ?_
       exact Ops.sx (J3j111 (.ptr 0 0) (dP e55 a0.fClasses) (dI (a0.fClasses.length : Int)) (dB (decide ((a0.fClasses.length : Int) > 4))) false (decide ((a0.fClasses.length : Int) > 4)) h)
      ·refine Ops.sg 5 8 ?_
       exact Ops.sx (J3j111 U U U U true true h)
   refine Ops.hv (fun KQ => ∀ v5 : Bool, f3_r5 m a0 a1 v3 v4 (v5 || (!((v4.2.fCode == 0) && ((v4.2.fIndex == 0) && true)))) = some o → KQ 4 ⟨Zs3 (.v (.agg [(vP e55 a0.fClasses)])) a1 v4.1 v1 (!v1) (.v (.tuple [(.agg [(vI v2.1.fStates), (vP e61 v2.1.fArcs), (vP e52 v2.1.fFinals)]), (.agg [(vI v2.2.fCode), (vI v2.2.fIndex)])])) (.v (.agg [(vI v2.1.fStates), (vP e61 v2.1.fArcs), (vP e52 v2.1.fFinals)])) (.v (.agg [(vI v2.2.fCode), (vI v2.2.fIndex)])) (.v (.agg [(vI 0), (vI 0)])) (!((v2.2.fCode == 0) && ((v2.2.fIndex == 0) && true))) (.v (.tuple [(.agg [(vI v3.1.fStates), (vP e61 v3.1.fArcs), (vP e52 v3.1.fFinals)]), (.agg [(vI v3.2.fCode), (vI v3.2.fIndex)])])) (.v (.agg [(vI v3.1.fStates), (vP e61 v3.1.fArcs), (vP e52 v3.1.fFinals)])) (.v (.agg [(vI v3.2.fCode), (vI v3.2.fIndex)])) (.v (.tuple [(vP e40 v4.1), (.agg [(vI v4.2.fCode), (vI v4.2.fIndex)])])) ((.v (.agg [(vI v4.2.fCode), (vI v4.2.fIndex)]))::(.v (.agg [(vI v3.2.fCode), (vI v3.2.fIndex)]))::(.v (.agg [(vI 0), (vI 0)]))::(dB v5)::(dB v5)::u40 (u13 [])), [(b3_0 a0), (b3_1 v2), (b3_2 v2), (b3_1 v3), (b3_2 v3), (b3_3 v4)]⟩) ?_ fun G3g6 => Ops.sx (G3g6 (!((v3.2.fCode == 0) && ((v3.2.fIndex == 0) && true))) h)
   intro v5 h
   cases v5
   ·refine Ops.sg 4 8 ?_
    exact Ops.sx (J3j12 ((.v (.agg [(vI v4.2.fCode), (vI v4.2.fIndex)]))) ((.v (.agg [(vI 0), (vI 0)]))) (dB (!((v4.2.fCode == 0) && ((v4.2.fIndex == 0) && true)))) false (!((v4.2.fCode == 0) && ((v4.2.fIndex == 0) && true))) h)
   ·refine Ops.sg 4 8 ?_
    exact Ops.sx (J3j12 U U U true true h)
end Go.Abs
