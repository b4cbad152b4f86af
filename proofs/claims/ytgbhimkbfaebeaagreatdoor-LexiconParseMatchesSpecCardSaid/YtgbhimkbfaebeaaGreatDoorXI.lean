import Derived.Test.YtgbhimkbfaebeaaGreatDoorWEnv
import Derived.Test.YtgbhimkbfaebeaaGreatDoorXF
import Derived.Test.YtgbhimkbfaebeaaGreatDoorAbsHC
import Derived.Lib.ItoaLen
namespace Go.Abs.Xi
open Go.Sort Go.Proofs
set_option linter.unusedVariables false
set_option linter.unusedSimpArgs false
set_option linter.unnecessarySimpa false
set_option maxRecDepth 100000
set_option maxHeartbeats 2000000
def Moves (d : D) (h : List AObj) (d2 : D) (h2 : List AObj) : Prop := ∀ (DR : Prop) S β w v, HInv S β w h → RelD S β w v d → ∃ β', Ext DR S β w S β' w ∧ HInv S β' w h2 ∧ RelD S β' w v d2
theorem Moves.refl (d : D) (h : List AObj) : Moves d h d h := fun DR S β w v hi hr => ⟨β, Ext.refl _ _ _, hi, hr⟩
theorem Moves.trans {d d1 d2 : D} {h h1 h2 : List AObj} (a : Moves d h d1 h1) (b : Moves d1 h1 d2 h2) : Moves d h d2 h2 := fun DR S β w v hi hr => by
 obtain ⟨β1, e1, i1, r1⟩ := a DR S β w v hi hr
 obtain ⟨β2, e2, i2, r2⟩ := b DR S β1 w v i1 r1
 exact ⟨β2, e1.trans e2, i2, r2⟩
theorem Moves.pad (d : D) (h : List AObj) : Moves d h d (h ++ [.dead]) := fun DR S β w v hi hr => by
 obtain ⟨e1, e2⟩ := hi.pad (DR := DR)
 exact ⟨_, e1, e2, hr.mono e1.keeps e1.pre⟩
theorem Moves.kill (d : D) (h : List AObj) (r : Nat) : Moves d h d (h.set r .dead) := fun DR S β w v hi hr => ⟨β, Ext.refl _ _ _, hi.kill r, hr⟩
theorem Moves.move {d : D} {h : List AObj} {r : Nat} {o : AObj} (hd : d.ref? = some r) (hr : h[r]? = some o) (hl : o.live = true) : Moves d h (d.withRef h.length) (h.set r .dead ++ [o]) := fun DR S β w v hi hv => by
 have hlt := lt_of_getElem? hr
 have hlen := hi.len
 obtain ⟨⟨b, c, k⟩, hb⟩ : ∃ x, β[r]? = some x := ⟨_, List.getElem?_eq_getElem (by omega)⟩
 obtain ⟨e1, e2⟩ := hi.move (DR := DR) hr hl hb
 refine ⟨_, e1, e2, hv.withRef hd fun x hx => ?_⟩
 rw [hb] at hx
 cases hx
 rw [← hlen]
 simp
theorem CallT.moves {DR : Prop} {P : Program} {f : FuncId} {ds : List D} {h : List AObj} {Q Q2 : D → List AObj → Prop} (hh : CallT DR P f ds h Q) (hq : ∀ d h', Q d h' → ∃ d2 h2, Moves d h' d2 h2 ∧ Q2 d2 h2) : CallT DR P f ds h Q2 := fun S β w vs hr hi =>
 (hh S β w vs hr hi).mono fun _ _ ⟨d, h', v, S', β', q, e, hE, hI, hR⟩ => by
  obtain ⟨d2, h2, hm, q2⟩ := hq d h' q
  obtain ⟨β2, hE2, hI2, hR2⟩ := hm DR S' β' _ v hI hR
  exact ⟨d2, h2, v, S', β2, q2, e, hE.trans hE2, hI2, hR2⟩
theorem callT_eq {DR : Prop} {P : Program} {f : FuncId} {ds ds' : List D} {h h' : List AObj} {Q : D → List AObj → Prop} (e1 : ds = ds') (e2 : h = h') (hc : CallT DR P f ds' h' Q) : CallT DR P f ds h Q := by rw [e1, e2]; exact hc
theorem dcall {DR : Prop} {P : Program} {f : FuncId} {F : List D → List AObj → Option (D × List AObj)} (h : DOk DR P f F) {ds : List D} {hp hp' : List AObj} {d : D} (he : F ds hp = some (d, hp')) : CallT DR P f ds hp fun d0 h0 => d0 = d ∧ h0 = hp' := by
 intro S β w vs hr hi
 refine (h.2 ds hp d hp' he S β w vs hr hi).mono ?_
 rintro e w' ⟨v, S', β', h1, h2, h3, h4⟩
 exact ⟨d, hp', v, S', β', ⟨rfl, rfl⟩, h1, h2, h3, h4⟩
def ti84 : TI := ⟨.int .u64, 1, 8, .int .u64 0, true⟩
def ti105 : TI := ⟨.array 24 5, 24, 24, .agg (List.replicate 24 (.int .u8 0)), true⟩
def T2 (t : Nat) : Option TI := match t with
 | 84 => some ti84
 | 105 => some ti105
 | t => T t
theorem T2_ok : ∀ t i, T2 t = some i → tiOf Tryz.prog t = some i := by
 intro t i h
 unfold T2 at h
 split at h
 ·cases h; kernel_rfl
 ·cases h; kernel_rfl
 ·exact T_ok t i h
def oraA (f : Nat) : Option (List V → Option V) := match f with
 | 78 => some smallF
 | 79 => some nDigF
 | _ => none
def EA : Env := { E with T := T2, ora := oraA, oraD := fun _ => none, rowM := true, dynP := true, pureF := fun f => !(f == 80 || f == 52 || f == 39) }
theorem goodA : Good False Tryz.prog EA := by
 refine ⟨good.mixed, T2_ok, names_ok, ?_, fun f F h => by cases h⟩
 intro f F h
 have h : oraA f = some F := h
 unfold oraA at h
 split at h
 ·cases h; exact xo78
 ·cases h; exact xo79
 ·cases h
noncomputable def XO (n : Nat) : Cx := ⟨EA, run Tryz.prog EA n, ⟨fun _ => [], fun _ => [], fun _ => []⟩, [], n⟩
theorem hxA (n : Nat) : Hx False Tryz.prog (XO n) := ⟨goodA.mixed, goodA.types, run_sound goodA n⟩
theorem ok78 (n : Nat) {x : Int} (h : 0 ≤ x ∧ x < 100) : Fn Tryz.prog EA (n + 1) 78 [.v (.int .i64 x)] (.str ⟨(Lib.decDigits x.toNat).toArray⟩) := by
 refine ora_fn (F := smallF) (xs := [.int .i64 x]) (by kernel_rfl) rfl rfl ?_ rfl
 show (if 0 ≤ x ∧ x < 100 then _ else none) = _
 rw [if_pos h]
theorem ok79 (n : Nat) {u : Int} (h : 1 ≤ u ∧ u < 18446744073709551616) : Fn Tryz.prog EA (n + 1) 79 [.v (.int .u64 u)] (.int .i64 (Lib.nDigits u.toNat)) := by
 refine ora_fn (F := nDigF) (xs := [.int .u64 u]) (by kernel_rfl) rfl rfl ?_ rfl
 show (if 1 ≤ u ∧ u < 18446744073709551616 then _ else none) = _
 rw [if_pos h]
theorem appT {h : List AObj} {q : Nat} {es xs : List V} {x : D} (hq : h[q]? = some (.tok 1 es.length)) (hx : elemsOf 1 h x.unt = some xs) (hb : es.length + xs.length ≤ 140737488355328) :
  appendD T2 true 49 h (.tsl q es) x = some (.tsl h.length (es ++ xs), h.set q .dead ++ [.tok 1 (es.length + xs.length)]) := by
 have h1 : T2 49 = some ti49 := rfl
 have h2 : T2 5 = some ti5 := rfl
 unfold appendD
 simp only [h1, show ti49.kind = .slice 5 from rfl, h2]
 rw [if_neg (by decide), show ti5.size = 1 from rfl, hx]
 simp only [hq]
 rw [if_pos ⟨trivial, trivial, by show _ * 1 ≤ _; omega, by unfold maxLen; omega⟩]
theorem mid_get (A : List AObj) (x : AObj) (l : List AObj) : (A ++ x :: l)[A.length]? = some x := by rw [List.getElem?_append_right (Nat.le_refl _), Nat.sub_self]; rfl
theorem mid_set (A : List AObj) (x y : AObj) (l : List AObj) : (A ++ x :: l).set A.length y = A ++ y :: l := by rw [List.set_append_right _ _ (Nat.le_refl _), Nat.sub_self]; rfl
theorem pures_v : ∀ (l : List V), pures (l.map .v) = some l
 | [] => rfl
 | x :: l => by simp only [List.map_cons, pures, D.pure?, pures_v l]
theorem digV_scalar (u : Int) : (digV u).all V.scalar = true := by
 unfold digV
 rw [List.all_map]
 exact List.all_eq_true.2 fun _ _ => rfl
theorem digV_str (u : Int) : bytesV ⟨(Lib.decDigits u.toNat).toArray⟩ = digV u := by
 unfold bytesV digV
 rfl
theorem digV_ok (u : Int) : headOk 1 (digV u) = true := by
 unfold digV
 cases Lib.decDigits u.toNat <;> rfl
def resD (es : List V) (u : Int) (h : List AObj) (q : Nat) (d : D) (h' : List AObj) : Prop :=
 (d = .tsl h.length (es ++ digV u) ∧ h' = h.set q .dead ++ [.tok 1 (es.length + (digV u).length)]) ∨
 ∃ o, d = .tsl (h ++ [o]).length (es ++ digV u) ∧ h' = (h ++ [o]).set q .dead ++ [.tok 1 (es.length + (digV u).length)]
theorem fin52 (es : List V) (σ : St) (d : D) (h4 : σ.tmps.getD 6 .undef = d) : resultsD T2 σ (resOf Tryz.prog 52) = some d := by
 rw [show resOf Tryz.prog 52 = [.tmp 6] by kernel_rfl]; simp only [resultsD, allM, resultD, h4]
theorem fin39 (σ : St) (d : D) (h4 : σ.tmps.getD 6 .undef = d) : resultsD T2 σ (resOf Tryz.prog 39) = some d := by
 rw [show resOf Tryz.prog 39 = [.tmp 6] by kernel_rfl]; simp only [resultsD, allM, resultD, h4]
theorem fin24 (σ : St) (d : D) (h4 : σ.tmps.getD 6 .undef = d) : resultsD T2 σ (resOf Tryz.prog 24) = some d := by
 rw [show resOf Tryz.prog 24 = [.tmp 6] by kernel_rfl]; simp only [resultsD, allM, resultD, h4]
theorem is52 : Is Tryz.prog 52 := ⟨Tryz.f52, Tryz.func52, by kernel_rfl, by kernel_rfl⟩
theorem is39 : Is Tryz.prog 39 := ⟨Tryz.f39, Tryz.func39, by kernel_rfl, by kernel_rfl⟩
theorem is24 : Is Tryz.prog 24 := ⟨Tryz.f24, Tryz.func24, by kernel_rfl, by kernel_rfl⟩
theorem sl105 {h : List AObj} {r j : Nat} {cs : List D} (hr : h[r]? = some (.cells cs)) (hc : cs.length = 24) (hj : j ≤ 24) : sliceD T2 h 105 (.ptr r 0) none (some (.v (.int .i64 (j : Int)))) none = some (.osl r 0 j false) := by
 have h1 : T2 105 = some ti105 := rfl
 have h2 : sizeT T2 5 = some 1 := rfl
 have h3 : natOf (.v (.int .i64 (j : Int))) = some j := by simp [natOf]
 unfold sliceD
 simp only [h1, show ti105.kind = .array 24 5 from rfl, h2, h3, hr]
 rw [if_pos ⟨hj, hc⟩]
theorem sl105' {h : List AObj} {r j : Nat} {cs : List D} (hr : h[r]? = some (.cells cs)) (hc : cs.length = 24) (hj : j ≤ 24) : (sliceD T2 h 105 (.ptr r 0) none (some (.v (.int .i64 (j : Int)))) none).map (·, h) = some (.osl r 0 j false, h) := by rw [sl105 hr hc hj]; rfl
theorem apps52 {h : List AObj} {q : Nat} {es : List V} {u x : Int} (hq : h[q]? = some (.tok 1 es.length)) (hx : x = u) (hb : es.length + (digV u).length ≤ 140737488355328) :
  appendStrD T2 true 49 9 h (.tsl q es) (.v (.str ⟨(Lib.decDigits x.toNat).toArray⟩)) = some (.tsl h.length (es ++ digV u), h.set q .dead ++ [.tok 1 (es.length + (digV u).length)]) := by
 subst hx
 have h1 : T2 9 = some ti9 := rfl
 unfold appendStrD
 simp only [h1, show ti9.kind = .str from rfl, digV_str]
 refine appT hq ?_ hb
 show (if headOk 1 (digV x) then _ else none) = _
 rw [digV_ok]; rfl
theorem appc52 {h : List AObj} {q r : Nat} {es : List V} {u : Int} {l : List D} (hq : h[q]? = some (.tok 1 es.length)) (hr : h[r]? = some (.cells ((digV u).map .v ++ l))) (hb : es.length + (digV u).length ≤ 140737488355328) :
  appendD T2 true 49 h (.tsl q es) (.osl r 0 (Lib.nDigits u.toNat) false) = some (.tsl h.length (es ++ digV u), h.set q .dead ++ [.tok 1 (es.length + (digV u).length)]) := by
 refine appT hq ?_ hb
 have hlen : ((digV u).map D.v).length = Lib.nDigits u.toNat := by rw [List.length_map, digV_len]
 show elemsOf 1 h (.osl r 0 (Lib.nDigits u.toNat) false) = _
 unfold elemsOf
 simp only [hr, List.drop_zero]
 rw [if_pos ⟨trivial, by rw [List.length_append, hlen]; omega⟩, ← hlen, List.take_left, pures_v]
 simp only [digV_scalar, if_true]
theorem zero24 : (List.replicate 24 (D.v (.int .u8 0))).all zeroB = true := by decide
theorem call52 (n : Nat) (h : List AObj) (q : Nat) (es : List V) (u : Int) (hq : h[q]? = some (.tok 1 es.length)) (hu0 : 0 ≤ u) (h1 : u < 18446744073709551616) (hl : es.length ≤ 1000000000) :
  CallT False Tryz.prog 52 [.tsl q es, .v (.int .u64 u), .v (.int .i64 10)] h (resD es u h q) := by
 have hd20 : (digV u).length ≤ 20 := by rw [digV_len]; exact Lib.nDigits_le20 _ (by omega)
 have hqlt := lt_of_getElem? hq
 have hxn := hxA (n+1)
 refine callT_of_ht (c := bodyOf Tryz.prog 52) (T := T2) Tryz.func52 (by kernel_rfl) T2_ok (Ht.sq (Ht.rg hxn (Ops.sg 1 1 (Ops.dn (seqH.n (Ht.sq (Ht.sq (Ht.rg hxn (Ops.sg 2 2 (Ops.dn (seqH.n ?_)))))))))))
 refine Ht.cond true (by kernel_rfl) (by kernel_rfl) (fun _ => ?_) (fun hc => nomatch hc)
 refine Ht.sq (Ht.sq (Ht.rg hxn (Ops.sg 2 2 (Ops.dn (seqH.n ?_)))))
 refine Ht.cond (decide (u < 100)) (by kernel_rfl) (by kernel_rfl) (fun hc => ?_) (fun hc => ?_)
 ·have hc := of_decide_eq_true hc
  have hw : w64 u = u := w64_id (by omega)
  refine Ht.sq (Ht.rg hxn (Ops.sg 3 3 ?_))
  refine Ops.on 4 (fun h0 e0 => call_ok (E' := EA) (h := h0) (by kernel_rfl) (Args.v (.int .i64 (w64 u)) (.int .i64 (w64 u)) (by kernel_rfl) Args.nil) (ok78 n (by rw [hw]; exact ⟨hu0, hc⟩))) ?_
  refine Ops.on 5 (fun h0 e0 => apps52 (h := h0) (u := u) (x := w64 u) (es := es) (hq_of (g := h) (e0.trans (by kernel_rfl)) hq) hw (by omega)) ?_
  refine Ops.sg 1 6 (Ops.dn (seqH.n (Ht.rt ?_)))
  exact ⟨.inr rfl, _, fin52 es _ _ (by kernel_rfl), .inl ⟨rfl, by kernel_rfl⟩⟩
 ·have hc := of_decide_eq_false hc
  refine Ht.sk (seqH.n (Ht.sq (Ht.rg hxn (Ops.sg 1 1 (Ops.dn (seqH.n (Ht.sq (Ht.rg hxn (Ops.sg 1 1 ?_)))))))))
  refine Ops.on 2 (fun h0 e0 => call_ok (E' := EA) (h := h0) (by kernel_rfl) (Args.v (.int .u64 u) (.int .u64 u) (by kernel_rfl) Args.nil) (ok79 n (by omega))) ?_
  refine Ops.sg 1 3 (Ops.dn (seqH.n (Ht.sq ?_)))
  refine Ht.regionCall' (hxA (n+1)) 3 (t := 23) (args := [.tmp 21, .tmp 22]) (Qc := fun d h' => d = U ∧ h' = h ++ [.cells ((digV u).map .v ++ (List.replicate 24 (D.v (.int .u8 0))).drop (Lib.nDigits u.toNat))]) (by kernel_rfl) xis80 ?_
  refine OpsU.seg' 1 1 (by kernel_rfl) ?_
  refine OpsU.one' 2 (fun h0 e0 => sl105' (h := h0) (j := Lib.nDigits u.toNat) (hq_of (g := h ++ [.cells (List.replicate 24 (D.v (.int .u8 0)))]) (e0.trans (by kernel_rfl)) (mid_get h _ [])) rfl (by have := digV_len u; omega)) (by kernel_rfl) (by kernel_rfl) ?_
  refine OpsU.seg' 1 3 (by kernel_rfl) ?_
  refine OpsU.done ⟨callT_eq (ds' := [.osl h.length 0 (Lib.nDigits u.toNat) false, .v (.int .u64 u)]) (h' := h ++ [.cells (List.replicate 24 (D.v (.int .u8 0)))]) (by kernel_rfl) (by kernel_rfl) (dcall xod80 ?_), fun d h' hd => ?_⟩
  ·unfold fmtF
   simp only [mid_get h _ []]
   rw [if_pos ?_, mid_set]
   refine ⟨?_, ?_, hu0, h1, trivial, ?_⟩
   ·have := digV_len u; rw [List.length_replicate]; omega
   ·exact List.all_eq_true.2 fun x hx => List.all_eq_true.1 zero24 x (List.mem_of_mem_take hx)
   ·have := digV_len u; omega
  obtain ⟨rfl, rfl⟩ := hd
  refine Ops.dn (seqH.n (Ht.sq (Ht.rg hxn (Ops.sg 2 2 ?_))))
  refine Ops.on 3 (fun h0 e0 => sl105' (h := h0) (j := Lib.nDigits u.toNat) (hq_of (g := h ++ [.cells ((digV u).map .v ++ (List.replicate 24 (D.v (.int .u8 0))).drop (Lib.nDigits u.toNat))]) (e0.trans (by kernel_rfl)) (mid_get h _ [])) (by rw [List.length_append, List.length_map, digV_len, List.length_drop, List.length_replicate]; have := digV_len u; omega) (by have := digV_len u; omega)) ?_
  refine Ops.on 4 (fun h0 e0 => appc52 (h := h0) (hq_of (g := h ++ [.cells ((digV u).map .v ++ (List.replicate 24 (D.v (.int .u8 0))).drop (Lib.nDigits u.toNat))]) (e0.trans (by kernel_rfl)) (by rw [List.getElem?_append_left hqlt]; exact hq)) (hq_of (g := h ++ [.cells ((digV u).map .v ++ (List.replicate 24 (D.v (.int .u8 0))).drop (Lib.nDigits u.toNat))]) (e0.trans (by kernel_rfl)) (mid_get h _ [])) (by omega)) ?_
  refine Ops.sg 1 5 (Ops.dn (seqH.n (Ht.rt ?_)))
  exact ⟨.inr rfl, _, fin52 es _ _ (by kernel_rfl), .inr ⟨.cells ((digV u).map .v ++ (List.replicate 24 (D.v (.int .u8 0))).drop (Lib.nDigits u.toNat)), rfl, by kernel_rfl⟩⟩
def intV (n : Int) : List V := if n < 0 then .int .u8 45 :: digV (-n) else digV n
def inZ (q : Nat) (h : List AObj) (zs : List V) : List AObj := h.set q .dead ++ [.dead, .dead, .dead, .tok 1 zs.length]
theorem norm (A l : List AObj) (zs : List V) (hl : l.length ≤ 2) : Moves (.tsl (A.length + l.length) zs) (A ++ l ++ [.tok 1 zs.length]) (.tsl (A.length + 3) zs) (A ++ [.dead, .dead, .dead, .tok 1 zs.length]) := by
 have mv : ∀ (B C : List AObj), Moves (.tsl B.length zs) (B ++ .tok 1 zs.length :: C) (.tsl (B.length + 1 + C.length) zs) (B ++ .dead :: (C ++ [.tok 1 zs.length])) := fun B C => by
  have h := Moves.move (d := .tsl B.length zs) (h := B ++ .tok 1 zs.length :: C) (r := B.length) (o := .tok 1 zs.length) rfl (mid_get _ _ _) rfl
  rw [mid_set] at h
  have e1 : (B ++ AObj.tok 1 zs.length :: C).length = B.length + 1 + C.length := by simp; omega
  rw [e1] at h
  simpa [D.withRef] using h
 have kl : ∀ (B C : List AObj) (o : AObj) (d : D), Moves d (B ++ o :: C) d (B ++ .dead :: C) := fun B C o d => by
  have h := Moves.kill d (B ++ o :: C) B.length
  rwa [mid_set] at h
 have pd := fun (B : List AObj) (d : D) => Moves.pad d B
 match l, hl with
 | [], _ =>
  refine ((pd _ _).trans (pd _ _)).trans ?_
  have := mv A [.dead, .dead]
  simpa using this
 | [o], _ =>
  refine ((pd _ _).trans ?_)
  have h1 := kl A [.tok 1 zs.length, .dead] o (.tsl (A.length + 1) zs)
  have h2 := mv (A ++ [.dead]) [.dead]
  have := h1.trans (by simpa using h2)
  simpa using this
 | [o, o'], _ =>
  have h1 := kl A [o', .tok 1 zs.length] o (.tsl (A.length + 2) zs)
  have h2 := kl (A ++ [.dead]) [.tok 1 zs.length] o' (.tsl (A.length + 2) zs)
  have h3 := mv (A ++ [.dead, .dead]) []
  have := (h1.trans (by simpa using h2)).trans (by simpa using h3)
  simpa using this
theorem wrapU {n : Int} (h : 0 ≤ n ∧ n < 18446744073709551616) : IntKind.u64.wrap n = n := by
 unfold IntKind.wrap
 simp [IntKind.bits, IntKind.signed]
 omega
theorem wrapN {n : Int} (h : -9223372036854775808 ≤ n ∧ n < 0) : IntKind.u64.wrap (0 - (IntKind.u64.wrap n)) = -n := by
 unfold IntKind.wrap
 simp [IntKind.bits, IntKind.signed]
 omega
def resI (es : List V) (n : Int) (h : List AObj) (q : Nat) (d : D) (h' : List AObj) : Prop := ∃ l : List AObj, l.length ≤ 2 ∧ d = .tsl ((h.set q .dead).length + l.length) (es ++ intV n) ∧ h' = h.set q .dead ++ l ++ [.tok 1 (es ++ intV n).length]
theorem resI_pos {es : List V} {u : Int} {h : List AObj} {q : Nat} {d : D} {h' : List AObj} (hq : q < h.length) (hu : 0 ≤ u) (h1 : resD es u h q d h') : resI es u h q d h' := by
 have hi : intV u = digV u := by unfold intV; rw [if_neg (by omega)]
 unfold resI
 rw [hi]
 rcases h1 with ⟨rfl, rfl⟩ | ⟨o, rfl, rfl⟩
 ·exact ⟨[], by simp, by simp, by simp⟩
 ·refine ⟨[o], by simp, by simp, ?_⟩
  rw [List.set_append_left _ _ hq]
  simp
theorem resI_neg {es : List V} {n : Int} {h : List AObj} {q : Nat} {d : D} {h' : List AObj} (hq : q < h.length) (hn : n < 0) (h1 : resD (es ++ [.int .u8 45]) (-n) (h.set q .dead ++ [.tok 1 (es.length + 1)]) h.length d h') : resI es n h q d h' := by
 have hi : intV n = .int .u8 45 :: digV (-n) := by unfold intV; rw [if_pos hn]
 unfold resI
 rw [hi]
 have hl : (h.set q AObj.dead).length = h.length := by simp
 have e1 : (h.set q AObj.dead ++ [AObj.tok 1 (es.length + 1)]).set h.length .dead = h.set q .dead ++ [.dead] := by
  rw [← hl]; exact mid_set _ _ _ _
 rcases h1 with ⟨rfl, rfl⟩ | ⟨o, rfl, rfl⟩
 ·refine ⟨[.dead], by simp, by simp, ?_⟩
  rw [e1]
  simp
  omega
 ·refine ⟨[.dead, o], by simp, by simp, ?_⟩
  have e2 : (h.set q AObj.dead ++ [AObj.tok 1 (es.length + 1)] ++ [o]).set h.length .dead = h.set q .dead ++ [.dead] ++ [o] := by
   rw [List.append_assoc, ← hl]
   exact (mid_set _ _ _ [o]).trans (by simp)
  rw [e2]
  simp
  omega
theorem appm {h : List AObj} {q : Nat} {es : List V} (hq : h[q]? = some (.tok 1 es.length)) (hb : es.length ≤ 1000000000) :
  appendD T2 true 49 h (.tsl q es) (.v (.sl .full [.int .u8 45])) = some (.tsl h.length (es ++ [.int .u8 45]), h.set q .dead ++ [.tok 1 (es.length + 1)]) :=
 appT (xs := [.int .u8 45]) hq rfl (by show es.length + 1 ≤ _; omega)
theorem call39 (n : Nat) (h : List AObj) (q : Nat) (es : List V) (z : Int) (hq : h[q]? = some (.tok 1 es.length)) (hz : -9223372036854775808 ≤ z ∧ z < 9223372036854775808) (hl : es.length ≤ 100000000) :
  CallT False Tryz.prog 39 [.tsl q es, .v (.int .i64 z), .v (.int .i64 10)] h (resI es z h q) := by
 have hqlt := lt_of_getElem? hq
 have hxn := hxA (n+1)
 refine callT_of_ht (c := bodyOf Tryz.prog 39) (T := T2) Tryz.func39 (by kernel_rfl) T2_ok (Ht.sq (Ht.rg hxn (Ops.sg 1 1 (Ops.dn (seqH.n (Ht.sq (Ht.rg hxn (Ops.sg 3 3 (Ops.dn (seqH.n (Ht.sq (Ht.sq (Ht.rg hxn (Ops.sg 2 2 (Ops.dn (seqH.n ?_))))))))))))))))
 refine Ht.cond (decide (z < 0)) (by kernel_rfl) (by kernel_rfl) (fun hc => ?_) (fun hc => ?_)
 ·have hc := of_decide_eq_true hc
  refine Ht.sq (Ht.rg hxn (Ops.sg 2 2 ?_))
  refine Ops.on 3 (fun h0 e0 => appm (h := h0) (es := es) (hq_of (g := h) (e0.trans (by kernel_rfl)) hq) (by omega)) ?_
  refine Ops.sg 1 4 (Ops.dn (seqH.n (Ht.rg hxn (Ops.sg 3 3 (Ops.dn (seqH.n (Ht.sq ?_)))))))
  have hw := wrapN ⟨hz.1, hc⟩
  refine Ht.regionCall' hxn 3 (t := 20) (args := [.tmp 17, .tmp 18, .tmp 19]) (Qc := resD (es ++ [.int .u8 45]) (IntKind.u64.wrap (0 - (IntKind.u64.wrap z))) (h.set q .dead ++ [.tok 1 (es.length + 1)]) h.length) (by kernel_rfl) is52 (OpsU.seg' 3 3 (by kernel_rfl) ?_)
  refine OpsU.done ⟨callT_eq (ds' := [.tsl h.length (es ++ [.int .u8 45]), .v (.int .u64 (IntKind.u64.wrap (0 - (IntKind.u64.wrap z)))), .v (.int .i64 10)]) (h' := h.set q .dead ++ [.tok 1 (es.length + 1)]) (by kernel_rfl) (by kernel_rfl)
   (call52 n _ _ _ _ (by
    have hl2 : (h.set q AObj.dead).length = h.length := by simp
    rw [← hl2, mid_get]
    simp) (by rw [hw]; omega) (by rw [hw]; omega) (by simp; omega)), fun d h' hd => ?_⟩
  rw [hw] at hd
  have hd := resI_neg hqlt hc hd
  refine Ops.sg 1 5 (Ops.dn (seqH.n (Ht.rt ?_)))
  exact ⟨.inr rfl, _, fin39 _ d (by kernel_rfl), hd⟩
 ·have hc := of_decide_eq_false hc
  refine Ht.sk (seqH.n (Ht.sq ?_))
  have hw := wrapU (n := z) ⟨by omega, by omega⟩
  refine Ht.regionCall' hxn 3 (t := 20) (args := [.tmp 17, .tmp 18, .tmp 19]) (Qc := resD es (IntKind.u64.wrap z) h q) (by kernel_rfl) is52 (OpsU.seg' 3 3 (by kernel_rfl) ?_)
  refine OpsU.done ⟨callT_eq (ds' := [.tsl q es, .v (.int .u64 (IntKind.u64.wrap z)), .v (.int .i64 10)]) (h' := h) (by kernel_rfl) (by kernel_rfl)
   (call52 n _ _ _ _ hq (by rw [hw]; omega) (by rw [hw]; omega) (by omega)), fun d h' hd => ?_⟩
  rw [hw] at hd
  have hd := resI_pos hqlt (by omega) hd
  refine Ops.sg 1 5 (Ops.dn (seqH.n (Ht.rt ?_)))
  exact ⟨.inr rfl, _, fin39 _ d (by kernel_rfl), hd⟩
theorem call24 (n : Nat) (h : List AObj) (q : Nat) (es : List V) (z : Int) (hq : h[q]? = some (.tok 1 es.length)) (hz : -9223372036854775808 ≤ z ∧ z < 9223372036854775808) (hl : es.length ≤ 100000000) :
  CallT False Tryz.prog 24 [.tsl q es, .v (.int .i64 z), .v (.int .i64 10)] h (resI es z h q) := by
 have hxn := hxA (n+1)
 refine callT_of_ht (c := bodyOf Tryz.prog 24) (T := T2) Tryz.func24 (by kernel_rfl) T2_ok (Ht.sq (Ht.rg hxn (Ops.sg 1 1 (Ops.dn (seqH.n (Ht.sq (Ht.regionCall' hxn 3 (t := 10) (args := [.tmp 7, .tmp 8, .tmp 9]) (Qc := resI es z h q) (by kernel_rfl) is39 (OpsU.seg' 3 3 (by kernel_rfl) ?_))))))))
 refine OpsU.done ⟨callT_eq (ds' := [.tsl q es, .v (.int .i64 z), .v (.int .i64 10)]) (h' := h) (by kernel_rfl) (by kernel_rfl) (call39 n _ _ _ _ hq hz hl), fun d h' hd => ?_⟩
 refine Ops.sg 1 5 (Ops.dn (seqH.n (Ht.rt ?_)))
 exact ⟨.inr rfl, _, fin24 _ d (by kernel_rfl), hd⟩
end Go.Abs.Xi
namespace Go.Abs
open Go.Sort Go.Proofs
def apintF : List D → List AObj → Option (D × List AObj)
 | [.tsl q es, .v (.int .i64 z), .v (.int .i64 10)], h => match h[q]? with
  | some (.tok 1 m) => if m = es.length ∧ (-9223372036854775808 ≤ z ∧ z < 9223372036854775808) ∧ es.length ≤ 100000000 then
    some (.tsl (h.length + 3) (es ++ Xi.intV z), Xi.inZ q h (es ++ Xi.intV z)) else none
  | _ => none
 | _, _ => none
theorem orad24 : DOk False Tryz.prog 24 apintF := by
 refine ⟨Xi.is24, fun ds h d h' hd => ?_⟩
 unfold apintF at hd
 split at hd
 case h_2 => cases hd
 rename_i hx q es z
 split at hd
 case h_2 => cases hd
 rename_i m hq
 split at hd
 case isFalse => cases hd
 rename_i hc
 obtain ⟨rfl, hz, hl⟩ := hc
 obtain ⟨rfl, rfl⟩ := Prod.mk.inj (Option.some.inj hd)
 have h1 := Xi.CallT.moves (Q2 := fun d h' => d = .tsl (h.length + 3) (es ++ Xi.intV z) ∧ h' = Xi.inZ q h (es ++ Xi.intV z)) (Xi.call24 0 h q es z hq hz hl) (fun d h' hd => by
  obtain ⟨l, hl, rfl, rfl⟩ := hd
  refine ⟨_, _, Xi.norm (h.set q .dead) l (es ++ Xi.intV z) hl, ?_, rfl⟩
  simp)
 intro S β w vs hr hi
 refine (h1 S β w vs hr hi).mono ?_
 rintro e w' ⟨d, h', v, S', β', ⟨rfl, rfl⟩, h2, h3, h4, h5⟩
 exact ⟨v, S', β', h2, h3, h4, h5⟩
def intI (n : Int) : List Int := if n < 0 then 45 :: (Lib.decDigits (-n).toNat).map fun c => (c.toNat : Int) else (Lib.decDigits n.toNat).map fun c => (c.toNat : Int)
theorem intI_V (n : Int) : (intI n).map (eK .u8) = Xi.intV n := by
 unfold intI Xi.intV digV
 split
 ·rw [List.map_cons, List.map_map]; rfl
 ·rw [List.map_map]; rfl
def apint (x : List Int) (n : Int) : Option (List Int) := match x with
 | [] => none
 | x :: r => if (-9223372036854775808 ≤ n ∧ n < 9223372036854775808) ∧ r.length < 100000000 then some (x :: r ++ intI n) else none
theorem row_apint (h : List AObj) (q : Nat) (x : List Int) (n : Int) (zs : List Int) (ha : apint x n = some zs) (hq : h[q]? = some (appO 1 (x.map (eK .u8)))) :
  apintF [appD q (x.map (eK .u8)), .v (.int .i64 n), .v (.int .i64 10)] h = some (appD (h.length + 3) (zs.map (eK .u8)), h.set q .dead ++ [.dead, .dead, .dead, appO 1 (zs.map (eK .u8))]) := by
 unfold apint at ha
 split at ha
 ·cases ha
 rename_i x r
 split at ha
 case isFalse => cases ha
 rename_i hc
 cases ha
 have hq : h[q]? = some (.tok 1 ((x :: r).map (eK .u8)).length) := hq
 show apintF [.tsl q ((x :: r).map (eK .u8)), .v (.int .i64 n), .v (.int .i64 10)] h = _
 unfold apintF
 simp only [hq]
 rw [if_pos ⟨trivial, hc.1, by rw [List.length_map, List.length_cons]; omega⟩, List.map_append, intI_V]
 rfl
end Go.Abs
