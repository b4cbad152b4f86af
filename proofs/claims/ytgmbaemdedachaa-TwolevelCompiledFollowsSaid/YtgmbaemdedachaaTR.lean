import Derived.Test.YtgmbaemdedachaaTO
namespace Go.Abs.Tg
open Go.Sort Go.Proofs Go.Abs.Ta Go.Abs.Tb Go.Abs.Tc Go.Abs.Te Go.Abs.Tf
set_option linter.unusedVariables false
set_option linter.unusedSimpArgs false
set_option linter.unnecessarySimpa false
set_option maxRecDepth 100000
set_option maxHeartbeats 4000000
variable {a b r s : Nat} {σ : St}
theorem resC {rs : List ResultVar} (hr : rs = [.cell a 28, .cell b 30]) {cs : List D} {x y : Int} {xs : List V} (h6 : σ.tmps.getD a .undef = .ptr r 0) (h7 : σ.tmps.getD b .undef = .ptr s 0) (g0 : σ.heap[r]? = some (.cells cs)) (g1 : σ.heap[s]? = some (.cells [dI x, dI y])) (hl : cs.length = 3) (hf : FL σ.heap 4 cs xs) :
  ∃ d, resultsD TM σ rs = some d ∧ Abs.frz σ.heap 6 d = some (.tuple [.agg xs, .agg [vI x, vI y]]) := by
 have h28 : TM 28 = some ti28 := rfl
 have h30 : TM 30 = some ti30 := rfl
 have c1 : cut cs 0 ti28.size = some cs := by
  show (if 0 + 3 ≤ cs.length then some ((cs.drop 0).take 3) else none) = _
  rw [if_pos om, List.drop_zero, zX om]
 have l1 : loadD ti28 σ.heap (.ptr r 0) = some (mkAgg cs) := by
  simp only [loadD, g0, c1, Option.bind_some]
  rfl
 have l2 : loadD ti30 σ.heap (.ptr s 0) = some (.v (.agg [vI x, vI y])) := by
  simp only [loadD, g1]
  rfl
 refine ⟨mkTuple [mkAgg cs, .v (.agg [vI x, vI y])], ?_, tup_frz _ (.d _ _ (mkAgg_frz hf) (mkAgg_nt _) (.v _ _ rfl rfl .nil))⟩
 rw [hr]
 simp only [resultsD, allM, resultD, h28, h30, h6, h7, l1, l2]
abbrev mCs (m : S27) : List D := [dI m.fSt, dP e52 m.fAs, dP e54 m.fFn]
theorem fl_m (h : List AObj) (m : S27) : FL h 4 (mCs m) [vI m.fSt, vP e52 m.fAs, vP e54 m.fFn] := .cons _ _ rfl rfl (.cons _ _ rfl rfl (.cons _ _ rfl rfl .nil))
variable {o : S27 × S29}
theorem two_res {f : FuncId} {N : Nat} (hr : resOf Try.prog f = [.cell a 28, .cell b 30]) {L : List AObj} (h6 : σ.tmps.getD a .undef = .ptr r 0) (h7 : σ.tmps.getD b .undef = .ptr s 0) (hh : σ.heap = L) (k0 : L[r]? = some (.cells (mCs o.1))) (k1 : L[s]? = some (.cells [dI o.2.fCo, dI o.2.fIx])) :
  ∃ d, resultsD TM σ (resOf Try.prog f) = some d ∧ Abs.frz σ.heap 6 d = some (.tuple [e27 o.1, e29 o.2]) :=
 resC hr h6 h7 (by rw [hh]; exact k0) (by rw [hh]; exact k1) rfl (fl_m _ _)
def numL (n : Nat) : List Int := (List.range n).map fun (i : Nat) => ((i : Int) + 1)
theorem numL_len (n : Nat) : (numL n).length = n := by simp [numL]
variable {n : Nat}
theorem numL_get {i : Nat} (h : i < n) : (numL n)[i]? = some ((i : Int) + 1) := by simp [numL, List.getElem?_range h]
variable {Q : Post}
theorem Ht.gen {pf : Prop} {p : Program} {c : Code} (h : ∀ Q' : Post, (∀ e σ, Q e σ → Q' e σ) → Ht pf p c σ Q') : Ht pf p c σ Q := h Q fun _ _ h => h
structure OkT (next : List (List Int)) (fin : List Bool) (n : Nat) : Prop where
 len : next.length ≤ 20000
 fin : fin.length = next.length
 row : ∀ r ∈ next, r.length = n
 to : ∀ r ∈ next, ∀ t ∈ r, -1 ≤ t ∧ t < next.length
noncomputable def C27 : Code := bodyOf Try.prog 27
noncomputable abbrev A27 : Code := cR (cR C27)
noncomputable abbrev L27 : Code := cL A27
noncomputable abbrev B27 : Code := cR (cR A27)
noncomputable abbrev M27 : Code := cL B27
abbrev lL (n : Nat) (next : List (List Int)) (fin : List Bool) : List (Nat × D) := [(0, dP eI (numL n)), (1, dP (eL eI) next), (2, dP eB fin), (6, .ptr 0 0), (7, .ptr 1 0)]
abbrev KL : List Nat := [0, 1, 2, 6, 7]
theorem ltD (a b : Int) (h : List AObj) : (binD TM .lss 3 (D.unt (dI a)) (D.unt (dI b))).map (·, h) = some (dB (decide (a < b)), h) := rfl
theorem gtD (a b : Int) (h : List AObj) : (binD TM .gtr 3 (D.unt (dI a)) (D.unt (dI b))).map (·, h) = some (dB (decide (a > b)), h) := rfl
theorem geD (a b : Int) (h : List AObj) : (binD TM .geq 3 (D.unt (dI a)) (D.unt (dI b))).map (·, h) = some (dB (decide (a ≥ b)), h) := rfl
theorem neD (a b : Int) (h : List AObj) : (binD TM .neq 3 (D.unt (dI a)) (D.unt (dI b))).map (·, h) = some (dB (a != b), h) := rfl
variable {G : List AObj} {fin : List Bool} {next : List (List Int)}
theorem labs27 (w : Nat) (hn : n ≤ 300)
  (hQ : ∀ σ, Abs.forget KL σ = Sm 102 (lL n next fin) G → Q .normal σ) : HT L27 (Sm 102 (lL n next fin) G) Q := by
 have hxn := hxM w
 refine Hs <| Hr hxn <| Og 1 <| Oo (fun h0 e0 => (show (lenD TM 62 (D.unt (dP eI (numL n)))).map (·, h0) = some (dI n, h0) from by rw [lr h0 62 3 eI (numL n), numL_len])) <| Og 1 <| On <| Hb 0 <| Ht.loop (fun k σ => ∃ i : Nat, i + k = n ∧ Abs.forget (19 :: 20 :: 21 :: KL) σ = Sm 102 ((19, dP eI (numL n)) :: (20, dI n) :: (21, dI i) :: lL n next fin) G) n kr ⟨0, om, kr⟩ ?_
 rintro k σ ⟨i, hk, hσ⟩
 refine Hg (19 :: 20 :: 21 :: KL) hσ ?_
 clear hσ
 refine Hs <| Hr hxn <| Og 1 <| On <| Hs <| Hd ((i : Int) < (n : Int)) (fun hc => ?_) (fun hc => ?_)
 case refine_2 =>
  refine Ht.exit (id := 0) kr ?_
  show blkH 0 Q (AExit.exit 0) _
  exact blkH.x (hQ _ kr)
 have hi : i < n := by omega
 have ix : idx (numL n) (i : Int) = some ((i : Int) + 1) := by rw [idx_get]; exact numL_get hi
 refine Hk <| seqH.n <| Hs <| Hb 1 <| Hs <| Hr hxn <| Og 1 <| Oo (fun h0 e0 => xr h0 62 3 1 eI (numL n) i ((i : Int) + 1) ix) <| Og 3 <| On <| Hf (8 :: 9 :: 19 :: 20 :: 21 :: KL) (Sm 102 ((8, dI i) :: (9, dI ((i : Int) + 1)) :: (19, dP eI (numL n)) :: (20, dI n) :: (21, dI i) :: lL n next fin) G) <| Hs <| Hs <| Hr hxn <| Og 1 <| Oo (fun h0 e0 => bo h0 .lss ((i : Int) + 1) 1 false (by rw [ltD, decide_eq_false om])) <| Og 2 <| Oo (fun h0 e0 => bo h0 .gtr ((i : Int) + 1) 1114111 false (by rw [gtD, decide_eq_false om])) <| Og 1 <| On <| Hz <| Hk <| seqH.n ?_
 have last : ∀ σ, Abs.forget (19 :: 20 :: 21 :: KL) σ = Sm 102 ((19, dP eI (numL n)) :: (20, dI n) :: (21, dI i) :: lL n next fin) G → HT (cR (cR (cR (cL (cL (cR L27)))))) σ (lpH (fun k σ => ∃ i : Nat, i + k = n ∧ Abs.forget (19 :: 20 :: 21 :: KL) σ = Sm 102 ((19, dP eI (numL n)) :: (20, dI n) :: (21, dI i) :: lL n next fin) G) k (blkH 0 Q)) := by
  intro σ hσ
  refine Hg (19 :: 20 :: 21 :: KL) hσ <| Hr hxn <| Og 2 <| Od <| ⟨k - 1, om, i + 1, om, ?_⟩
  rw [← w64_nat om]
  kernel_rfl
 refine Hs ?_
 cases i with
 | zero =>
  refine Hr hxn <| Og 11 <| On <| Hz <| Hk <| blkH.n <| seqH.n ?_
  exact last _ kr
 | succ j =>
  have ix' : idx (numL n) (w64 (((j + 1 : Nat) : Int) - 1)) = some ((j : Int) + 1) := by
   rw [w64_id ⟨om, om⟩, show ((j + 1 : Nat) : Int) - 1 = (j : Int) by omega, idx_get]
   exact numL_get om
  refine Hr hxn <| Og 1 <| Oo (fun h0 e0 => bo h0 .gtr ((j + 1 : Nat) : Int) 0 true (by rw [gtD, decide_eq_true om])) <| Og 4 <| Oo (fun h0 e0 => xr h0 62 3 1 eI (numL n) (w64 (((j + 1 : Nat) : Int) - 1)) ((j : Int) + 1) ix') <| Og 2 <| Oo (fun h0 e0 => bo h0 .geq ((j : Int) + 1) (((j + 1 : Nat) : Int) + 1) false (by rw [geD, decide_eq_false om])) <| Og 1 <| On <| Hz <| Hk <| blkH.n <| seqH.n ?_
  exact last _ kr
theorem rowsOk27 (w : Nat) (hn : n ≤ 300) (hok : OkT next fin n)
  (hQ : ∀ σ, Abs.forget KL σ = Sm 102 (lL n next fin) G → Q .normal σ) : HT M27 (Sm 102 (lL n next fin) G) Q := by
 have hxn := hxM w
 have hlen := hok.len
 refine Hs <| Hr hxn <| Og 1 <| Oo (fun h0 e0 => lr h0 65 62 (eL eI) next) <| Og 1 <| On <| Hb 2 <| Ht.loop (fun k σ => ∃ i : Nat, i + k = next.length ∧ Abs.forget (55 :: 56 :: 57 :: KL) σ = Sm 102 ((55, dP (eL eI) next) :: (56, dI next.length) :: (57, dI i) :: lL n next fin) G) next.length kr ⟨0, om, kr⟩ ?_
 rintro k σ ⟨i, hk, hσ⟩
 refine Hg (55 :: 56 :: 57 :: KL) hσ ?_
 clear hσ
 refine Hs <| Hr hxn <| Og 1 <| On <| Hs <| Hd ((i : Int) < (next.length : Int)) (fun hc => ?_) (fun hc => ?_)
 case refine_2 =>
  refine Ht.exit (id := 2) kr ?_
  show blkH 2 Q (AExit.exit 2) _
  exact blkH.x (hQ _ kr)
 have hi : i < next.length := by omega
 obtain ⟨row, hrow⟩ : ∃ y, next[i]? = some y := ⟨_, zA hi⟩
 have hmem := zE hrow
 have hrl := hok.row row hmem
 have ix : idx next (i : Int) = some row := by rw [idx_get]; exact hrow
 refine Hk <| seqH.n <| Hs <| Hb 3 <| Hs <| Hr hxn <| Og 1 <| Oo (fun h0 e0 => xr h0 65 62 1 (eL eI) next i row ix) <| Og 3 <| On <| Hf (10 :: 11 :: 55 :: 56 :: 57 :: KL) (Sm 102 ((10, dI i) :: (11, dP eI row) :: (55, dP (eL eI) next) :: (56, dI next.length) :: (57, dI i) :: lL n next fin) G) <| Hs <| Hs <| Hr hxn <| Og 1 <| Oo (fun h0 e0 => lr h0 62 3 eI row) <| Og 1 <| Oo (fun h0 e0 => lr h0 62 3 eI (numL n)) <| Oo (fun h0 e0 => bo h0 .neq row.length ((numL n).length) false (by rw [neD, numL_len, hrl]; simp)) <| On <| Hz <| Hk <| seqH.n <| Hs <| Hr hxn <| Og 1 <| Oo (fun h0 e0 => lr h0 62 3 eI row) <| Og 1 <| On <| Ht.gen fun Q4 hQ4 => ?_
 refine Hb 4 <| Ht.loop (fun k' σ => ∃ j : Nat, j + k' = row.length ∧ Abs.forget (55 :: 56 :: 57 :: 70 :: 71 :: 72 :: KL) σ = Sm 102 ((55, dP (eL eI) next) :: (56, dI next.length) :: (57, dI i) :: (70, dP eI row) :: (71, dI row.length) :: (72, dI j) :: lL n next fin) G) row.length kr ⟨0, om, kr⟩ ?_
 rintro k' σ ⟨j, hk', hσ⟩
 refine Hg (55 :: 56 :: 57 :: 70 :: 71 :: 72 :: KL) hσ ?_
 clear hσ
 refine Hs <| Hr hxn <| Og 1 <| On <| Hs <| Hd ((j : Int) < (row.length : Int)) (fun hc => ?_) (fun hc => ?_)
 case refine_2 =>
  refine Ht.exit (id := 4) kr ?_
  show blkH 4 Q4 (AExit.exit 4) _
  refine blkH.x (hQ4 _ _ ?_)
  refine blkH.n <| seqH.n <| Hf (55 :: 56 :: 57 :: KL) (Sm 102 ((55, dP (eL eI) next) :: (56, dI next.length) :: (57, dI i) :: lL n next fin) G) <| Hr hxn <| Og 2 <| Od <| ⟨k - 1, om, i + 1, om, ?_⟩
  rw [← w64_nat om]
  kernel_rfl
 have hj : j < row.length := by omega
 obtain ⟨to, hto⟩ : ∃ y, row[j]? = some y := ⟨_, zA hj⟩
 obtain ⟨t1, t2⟩ := hok.to row hmem to (zE hto)
 have ix' : idx row (j : Int) = some to := by rw [idx_get]; exact hto
 refine Hk <| seqH.n <| Hs <| Hb 5 <| Hs <| Hr hxn <| Oo (fun h0 e0 => xr h0 62 3 1 eI row j to ix') <| Og 2 <| On <| Hs <| Hr hxn <| Og 1 <| Oo (fun h0 e0 => bo h0 .lss to (-1) false (by rw [ltD, decide_eq_false om])) <| Og 3 <| Oo (fun h0 e0 => lr h0 65 62 (eL eI) next) <| Oo (fun h0 e0 => bo h0 .geq to next.length false (by rw [geD, decide_eq_false om])) <| Og 1 <| On <| Hz <| Hk <| blkH.n <| seqH.n <| Hf (55 :: 56 :: 57 :: 70 :: 71 :: 72 :: KL) (Sm 102 ((55, dP (eL eI) next) :: (56, dI next.length) :: (57, dI i) :: (70, dP eI row) :: (71, dI row.length) :: (72, dI j) :: lL n next fin) G) <| Hr hxn <| Og 2 <| Od <| ⟨k' - 1, om, j + 1, om, ?_⟩
 rw [← w64_nat om]
 kernel_rfl
theorem wk27 (w m : Nat) (hn : n ≤ 300) (hok : OkT next fin n) (h : f47 m (numL n) next fin = some o) :
  HT (bodyOf Try.prog 27) (startIn Try.prog 27 [dP eI (numL n), dP (eL eI) next, dP eB fin] []) (fun e σ => (e = .normal ∨ e = .ret) ∧ ∃ d, resultsD TM σ (resOf Try.prog 27) = some d ∧ Abs.frz σ.heap 6 d = some (.tuple [e27 o.1, e29 o.2])) := by
 have hxn := hxM w
 have hxp := hxP false w is47 (call47 m (numL n) next fin o h)
 show HT C27 _ _
 refine Hs <| Hr hxn <| Og 2 <| On <| Hs <| Hs <| Hr hxn <| Og 1 <| Oo (fun h0 e0 => lr h0 62 3 eI (numL n)) <| Oo (fun h0 e0 => bo h0 .gtr ((numL n).length) 300 false (by rw [gtD, numL_len, decide_eq_false om])) <| On <| Hz <| Hk <| seqH.n <| Hf KL (Sm 102 (lL n next fin) [z28, z30]) <| Hs <| labs27 w hn fun σ hσ => ?_
 refine seqH.n <| Hg KL hσ ?_
 clear hσ
 refine Hs <| Hs <| Hr hxn <| Og 1 <| Oo (fun h0 e0 => lr h0 65 62 (eL eI) next) <| Oo (fun h0 e0 => bo h0 .gtr next.length 20000 false (by rw [gtD, decide_eq_false (by have := hok.len; omega)])) <| On <| Hz <| Hk <| seqH.n <| Hf KL (Sm 102 (lL n next fin) [z28, z30]) <| Hs <| rowsOk27 w hn hok fun σ hσ => ?_
 refine seqH.n <| Hg KL hσ ?_
 clear hσ
 refine Hs <| Hs <| Hr hxn <| Og 1 <| Oo (fun h0 e0 => lr h0 66 4 eB fin) <| Og 1 <| Oo (fun h0 e0 => lr h0 65 62 (eL eI) next) <| Oo (fun h0 e0 => bo h0 .neq fin.length next.length false (by rw [neD, hok.fin]; simp)) <| On <| Hz <| Hk <| seqH.n <| Hs <| Hr hxp <| Og 3 <| Oo (fun h0 e0 => callP (row := false) (n := w) (f0 := 47) (ds0 := [dP eI (numL n), dP (eL eI) next, dP eB fin]) (ds := [dP eI (numL n), dP (eL eI) next, dP eB fin]) (h := h0) (r := .tuple [e27 o.1, e29 o.2]) rfl rfl rfl) <| Og 2 <| Oo (fun h0 e0 => sq ti28 0 0 [dI 0, .v nilS, .v nilS] (mCs o.1) (.v (e27 o.1)) (Hw (g := [z28, z30]) e0 rfl)) <| Oo (fun h0 e0 => sq ti30 1 0 [dI 0, dI 0] [dI o.2.fCo, dI o.2.fIx] (.v (e29 o.2)) (Hw (g := [.cells (mCs o.1), z30]) e0 rfl)) <| On <| Hf [6, 7] (Sm 102 [(6, .ptr 0 0), (7, .ptr 1 0)] [.cells (mCs o.1), .cells [dI o.2.fCo, dI o.2.fIx]]) <| Ht.ret kr ?_
 exact ⟨.inr rfl, two_res (N := 102) (a := 6) (b := 7) (r := 0) (s := 1) (L := [.cells (mCs o.1), .cells [dI o.2.fCo, dI o.2.fIx]]) kr kr kr rfl rfl rfl⟩
theorem is27 : Is Try.prog 27 := ⟨Try.f27, Try.func27, kr, kr⟩
theorem call27 (m : Nat) (hn : n ≤ 300) (hok : OkT next fin n) (h : f47 m (numL n) next fin = some o) : CallT False Try.prog 27 [dP eI (numL n), dP (eL eI) next, dP eB fin] [] fun d h' => d = .v (.tuple [e27 o.1, e29 o.2]) ∧ h' = [] :=
 callN (c := bodyOf Try.prog 27) Try.func27 kr TM_ok (wk27 1 m hn hok h)
end Go.Abs.Tg
namespace Go.Abs.Th
open Go.Sort Go.Proofs Go.Abs.Ta Go.Abs.Tb Go.Abs.Tc Go.Abs.Te Go.Abs.Tf Go.Abs.Tg
set_option linter.unusedVariables false
set_option maxRecDepth 100000
set_option maxHeartbeats 4000000
theorem resS {rs : List ResultVar} {a : Nat} (hr : rs = [.cell a 83]) {σ : St} {r : Nat} {cs : List D} {xs : List V} (h6 : σ.tmps.getD a .undef = .ptr r 0) (g0 : σ.heap[r]? = some (.cells cs)) (hl : cs.length = 3) (hf : FL σ.heap 5 cs xs) :
  ∃ d, resultsD TM σ rs = some d ∧ Abs.frz σ.heap 6 d = some (.agg xs) := by
 have h28 : TM 83 = some ti83 := rfl
 have c1 : cut cs 0 ti83.size = some cs := by
  show (if 0 + 3 ≤ cs.length then some ((cs.drop 0).take 3) else none) = _
  rw [if_pos om, List.drop_zero, zX om]
 have l1 : loadD ti83 σ.heap (.ptr r 0) = some (mkAgg cs) := by
  simp only [loadD, g0, c1, Option.bind_some]
  rfl
 refine ⟨mkAgg cs, ?_, mkAgg_frz hf⟩
 rw [hr]
 simp only [resultsD, allM, resultD, h28, h6, l1]
abbrev w57 (r : S57) : AObj := .cells [dI r.fKn, dI r.fPr.fLx, dI r.fPr.fSf, dP e72 r.fCx]
theorem wk48 (w : Nat) (r : S57) (hr : r.fCx.length ≤ 300) :
  HT (bodyOf Try.prog 48) (startIn Try.prog 48 [.v (e57 r)] []) (fun e σ => (e = .normal ∨ e = .ret) ∧ ∃ d, resultsD TM σ (resOf Try.prog 48) = some d ∧ Abs.frz σ.heap 6 d = some (e82 ⟨List.replicate r.fCx.length 1, [], []⟩)) := by
 have hxn := hxM w
 have hxi := hxI false w is53 (call53 (x := 1) hr [w57 r, .cells [.v nilS, .v nilS, .v nilS]])
 refine Hs <| Hr hxn <| Og 2 <| On <| Hs <| Hr hxi <| Og 3 <| Oo (fun h0 e0 => lr h0 56 73 e72 r.fCx) <| Oo (fun h0 e0 => callI (row := false) (n := w) (f0 := 53) (ds0 := [.v (.sl .nonfull [vI 1]), dI r.fCx.length]) (h0 := [w57 r, .cells [.v nilS, .v nilS, .v nilS]]) (d0 := .osl 2 0 r.fCx.length false) (h1 := [w57 r, .cells [.v nilS, .v nilS, .v nilS], oI (List.replicate r.fCx.length 1)]) (ds := [.v (.sl .nonfull [vI 1]), dI r.fCx.length]) (h := h0) rfl (e0.trans kr)) <| Og 2 <| On <| Hf [2] (Sm 9 [(2, .ptr 1 0)] [w57 r, .cells [.osl 2 0 r.fCx.length false, .v nilS, .v nilS], oI (List.replicate r.fCx.length 1)]) <| Ht.ret kr <| ⟨.inr rfl, resS (a := 2) (r := 1) (cs := [.osl 2 0 r.fCx.length false, .v nilS, .v nilS]) kr kr rfl rfl (.cons _ _ ?_ rfl (.cons _ _ rfl rfl (.cons _ _ rfl rfl .nil)))⟩
 show Abs.frz [w57 r, .cells [.osl 2 0 r.fCx.length false, .v nilS, .v nilS], oI (List.replicate r.fCx.length 1)] 5 (.osl 2 0 r.fCx.length false) = some (vP eI (List.replicate r.fCx.length 1))
 simp [Abs.frz, oI, vP]
theorem is48 : Is Try.prog 48 := ⟨Try.f48, Try.func48, kr, kr⟩
theorem call48 (r : S57) (hr : r.fCx.length ≤ 300) : CallT False Try.prog 48 [.v (e57 r)] [] fun d h' => d = .v (e82 ⟨List.replicate r.fCx.length 1, [], []⟩) ∧ h' = [] :=
 callN (c := bodyOf Try.prog 48) Try.func48 kr TM_ok (wk48 1 r hr)
abbrev w48 (p : S48) : AObj := .cells [dI p.fLx, dI p.fSf]
abbrev w111 (h : S111) : AObj := .cells [dI h.fCt, dI h.fSn]
abbrev oH (l : List S111) : AObj := .row 2 (l.map e111)
def Td2 (G : List AObj) (d : D) (T : List S111) : Prop := (d = .v nilS ∧ T = []) ∨ ∃ q, d = .osl (q + 2) 0 T.length false ∧ G[q]? = some (oH T) ∧ T ≠ []
theorem Td2.app {G : List AObj} {d : D} {T : List S111} (h : Td2 G d T) (l : List AObj) : Td2 (G ++ l) d T := by
 rcases h with h | ⟨q, rfl, hq⟩
 ·exact .inl h
 ·exact .inr ⟨q, rfl, app_keep hq.1, hq.2⟩
variable {h : List AObj}
theorem apH {q : Nat} {T ys : List S111} {x : D} (hq : h[q]? = some (oH T)) (hx : elemsOf 2 h x.unt = some (ys.map e111)) (hl : T.length + ys.length < 200000000) :
  appendD TM true 80 h (.osl q 0 T.length false) x = some (.osl h.length 0 (T ++ ys).length false, h.set q .dead ++ [oH (T ++ ys)]) := by
 have h1 : TM 80 = some ti80 := rfl
 have h2 : TM 112 = some ti112 := rfl
 simp only [appendD, h1, show ti80.kind = .slice 112 from rfl, h2]
 rw [if_neg (by decide), show ti112.size = 2 from rfl, hx]
 simp only [hq, Bool.true_eq_false, if_false]
 rw [if_pos ⟨trivial, by simp, by rw [show ti112.bytes = 16 from rfl, List.length_map]; omega, by rw [List.length_map]; unfold maxLen; omega⟩]
 have ht : List.take T.length (List.map e111 T) = List.map e111 T := zX (by simp)
 simp only [Bool.false_eq_true, if_false, if_true, ht, List.length_append, List.length_map, List.map_append, oH]
theorem apHN {s : S111} : appendD TM true 80 h (.v nilS) (.v (.sl .nonfull [e111 s])) = some (.osl h.length 0 1 false, h ++ [oH [s]]) := rfl
variable {G : List AObj}
theorem Td2.push {a b : AObj} {d : D} {T : List S111} (hI : Td2 G d T) (s : S111) (hT : T.length < 100000000) :
  ∃ G', (∀ h, h = a :: b :: G → appendD TM true 80 h d (.v (.sl .nonfull [e111 s])) = some (.osl (G.length + 2) 0 (T ++ [s]).length false, a :: b :: G')) ∧ Td2 G' (.osl (G.length + 2) 0 (T ++ [s]).length false) (T ++ [s]) := by
 rcases hI with ⟨rfl, rfl⟩ | ⟨q, rfl, hq⟩
 ·exact ⟨G ++ [oH [s]], fun h e => by subst e; exact apHN, .inr ⟨G.length, rfl, mid_get _ _ _, by simp⟩⟩
 ·refine ⟨G.set q .dead ++ [oH (T ++ [s])], fun h e => by subst e; exact apH (ys := [s]) hq.1 rfl (by simp; omega), .inr ⟨G.length, rfl, ?_, by simp⟩⟩
  rw [show G.length = (G.set q AObj.dead).length by simp]
  exact mid_get _ _ _
def fitB (a p : S48) : Bool := (a.fLx == -1 || a.fLx == p.fLx) && (a.fSf == -1 || a.fSf == p.fSf)
theorem f67_eq (m : Nat) (a p : S48) : f67 m a p = some (fitB a p) := rfl
def goes (r : S57) (p : S48) (h : S111) : Bool := match idx r.fCx h.fCt with
 | none => false
 | some c => match idx c.fRt h.fSn with
  | none => false
  | some q => fitB q p
def onS (r : S57) (p : S48) (l : List S111) : List S111 := (l.filter (goes r p)).map fun h => ⟨h.fCt, h.fSn + 1⟩
def Hok (r : S57) (h : S111) : Prop := (∃ c, idx r.fCx h.fCt = some c) ∧ 0 ≤ h.fSn ∧ h.fSn ≤ 1000000
variable {i : Int} {α : Type}
theorem idxN {l : List α} (h : ¬ i < (l.length : Int)) : idx l i = none := by
 unfold idx
 split
 ·exact zS om
 ·rfl
theorem idxS {l : List α} (h0 : 0 ≤ i) (h : i < (l.length : Int)) : ∃ q, idx l i = some q := by
 unfold idx
 rw [if_pos om]
 exact ⟨_, zA om⟩
theorem onS_cons (r : S57) (p : S48) (h : S111) (l : List S111) : onS r p (h :: l) = (if goes r p h then [⟨h.fCt, h.fSn + 1⟩] else []) ++ onS r p l := by
 unfold onS
 rw [List.filter_cons]
 split <;> rfl
noncomputable abbrev L68 : Code := cL (cR (cR (bodyOf Try.prog 68)))
noncomputable abbrev BL68 : Code := cL (cL (cR L68))
abbrev l68 (r : S57) (l : List S111) (d : D) (i : Int) : List (Nat × D) := [(3, .ptr 0 0), (5, .ptr 1 0), (7, d), (11, dP e111 l), (12, dI l.length), (13, dI i)]
abbrev K68 : List Nat := [3, 5, 7, 11, 12, 13]
theorem mid2 (a b : AObj) (G : List AObj) (x : AObj) : (a :: b :: (G ++ [x]))[G.length + 2]? = some x := mid_get (a :: b :: G) x []
theorem mid2s (a b : AObj) (G : List AObj) (x y : AObj) : (a :: b :: (G ++ [x])).set (G.length + 2) y = a :: b :: (G ++ [y]) := mid_set (a :: b :: G) x y []
variable {l : List S111} {p : S48} {r : S57}
theorem loop68 (w : Nat) (hl : l.length ≤ 1000000) (hok : ∀ h ∈ l, Hok r h) {Q : Post}
  (hQ : ∀ d G σ, Td2 G d (onS r p l) → Abs.forget [7] σ = Sm 49 [(7, d)] (w57 r :: w48 p :: G) → Q .normal σ) :
  HT L68 (Sm 49 [(1, dP e111 l), (3, .ptr 0 0), (5, .ptr 1 0), (7, .v nilS)] (w57 r :: w48 p :: G)) Q := by
 have hxn := hxM (w + 1)
 have hxr := hxR (w + 1)
 refine Hs <| Hr hxn <| Og 1 <| Oo (fun h0 e0 => lr h0 80 112 e111 l) <| Og 1 <| On <| Hb 0 <| Ht.loop (fun k σ => ∃ (i : Nat) (T : List S111) (d : D) (G : List AObj), i + k = l.length ∧ T.length ≤ i ∧ T ++ onS r p (l.drop i) = onS r p l ∧ Td2 G d T ∧
  Abs.forget K68 σ = Sm 49 (l68 r l d i) (w57 r :: w48 p :: G)) l.length kr ⟨0, [], .v nilS, G, om, zL _, rfl, .inl ⟨rfl, rfl⟩, kr⟩ ?_
 rintro k σ ⟨i, T, d, G, hk, hT, hg, hI, hσ⟩
 refine Hg K68 hσ ?_
 clear hσ
 refine Hs <| Hr hxn <| Og 1 <| On <| Hs <| Hd ((i : Int) < (l.length : Int)) (fun hc => ?_) (fun hc => ?_)
 case refine_2 =>
  rw [zT om] at hg
  have hg : T = onS r p l := by rw [← hg]; simp [onS]
  subst hg
  refine Ht.exit (id := 0) kr ?_
  show blkH 0 Q (AExit.exit 0) _
  exact blkH.x (hQ d G _ hI kr)
 have hlt : i < l.length := by omega
 rw [zI hlt, onS_cons] at hg
 have hx : l[i]? = some l[i] := zA hlt
 have hmem : l[i] ∈ l := List.getElem_mem hlt
 generalize l[i] = x at hg hx hmem
 have ix : idx l (i : Int) = some x := by rw [idx_get]; exact hx
 obtain ⟨⟨c, hcx⟩, hs0, hs1⟩ := hok x hmem
 refine Hk <| seqH.n <| Hs <| Hb 1 <| Hs <| Hr hxn <| Oo (fun h0 e0 => xr h0 80 112 2 e111 l i x ix) <| Og 2 <| Oo (fun h0 e0 => sq ti112 (G.length + 2) 0 [dI 0, dI 0] [dI x.fCt, dI x.fSn] (.v (e111 x)) (Hw (g := w57 r :: w48 p :: (G ++ [.cells [dI 0, dI 0]])) e0 (mid2 _ _ G _))) <| On <| Hf (9 :: K68) (Sm 49 ((9, .ptr (G.length + 2) 0) :: l68 r l d i) ((w57 r :: w48 p :: (G ++ [.cells [dI 0, dI 0]])).set (G.length + 2) (w111 x))) ?_
 rw [mid2s]
 have hI := hI.app [w111 x]
 have gx : (w57 r :: w48 p :: (G ++ [w111 x]))[G.length + 2]? = some (w111 x) := mid2 _ _ G _
 generalize G.length + 2 = g at gx
 generalize G ++ [w111 x] = G at hI gx
 refine Hs <| Hr hxn <| Og 3 <| Oo (fun h0 e0 => lq ti3 g 0 [dI x.fCt, dI x.fSn] (dI x.fCt) (Hw (g := w57 r :: w48 p :: G) e0 gx)) <| Oo (fun h0 e0 => xr h0 56 73 4 e72 r.fCx x.fCt c hcx) <| Og 3 <| On <| Hf (9 :: 10 :: K68) (Sm 49 ((9, .ptr g 0) :: (10, dP e48 c.fRt) :: l68 r l d i) (w57 r :: w48 p :: G)) ?_
 have last : ∀ (d : D) (T' : List S111) (G : List AObj) σ, T'.length ≤ i + 1 → Td2 G d T' → T' ++ onS r p (l.drop (i + 1)) = onS r p l → Abs.forget K68 σ = Sm 49 (l68 r l d i) (w57 r :: w48 p :: G) →
   HT (cR (cR (cR BL68))) σ (lpH (fun k σ => ∃ (i : Nat) (T : List S111) (d : D) (G : List AObj), i + k = l.length ∧ T.length ≤ i ∧ T ++ onS r p (l.drop i) = onS r p l ∧ Td2 G d T ∧
  Abs.forget K68 σ = Sm 49 (l68 r l d i) (w57 r :: w48 p :: G)) k (blkH 0 Q)) := by
  intro d T' G σ h1 h2 h3 hσ
  refine Hg K68 hσ <| Hr hxn <| Og 2 <| Od <| ⟨k - 1, om, i + 1, T', d, G, om, h1, h3, h2, ?_⟩
  rw [← w64_nat om]
  kernel_rfl
 refine Hs ?_
 by_cases hlt2 : x.fSn < (c.fRt.length : Int)
 case neg =>
  have hn : goes r p x = false := by
   unfold goes
   rw [hcx]
   dsimp only
   rw [show idx c.fRt x.fSn = none from idxN om]
  rw [hn] at hg
  refine Hr hxn <| Og 1 <| Oo (fun h0 e0 => lq ti3 g 1 [dI x.fCt, dI x.fSn] (dI x.fSn) (Hw (g := w57 r :: w48 p :: G) e0 gx)) <| Og 1 <| Oo (fun h0 e0 => lr h0 23 49 e48 c.fRt) <| Oo (fun h0 e0 => bo h0 .lss x.fSn c.fRt.length false (by rw [ltD, decide_eq_false hlt2])) <| Og 9 <| On <| Hz <| Hk <| blkH.n <| seqH.n ?_
  exact last d T G _ om hI (by simpa using hg) kr
 obtain ⟨q, hqx⟩ : ∃ q, idx c.fRt x.fSn = some q := idxS hs0 hlt2
 have hn : goes r p x = fitB q p := by
  unfold goes
  rw [hcx]
  dsimp only
  rw [hqx]
 rw [hn] at hg
 refine Hr hxn <| Og 1 <| Oo (fun h0 e0 => lq ti3 g 1 [dI x.fCt, dI x.fSn] (dI x.fSn) (Hw (g := w57 r :: w48 p :: G) e0 gx)) <| Og 1 <| Oo (fun h0 e0 => lr h0 23 49 e48 c.fRt) <| Oo (fun h0 e0 => bo h0 .lss x.fSn c.fRt.length true (by rw [ltD, decide_eq_true hlt2])) <| Og 3 <| Oo (fun h0 e0 => lq ti3 g 1 [dI x.fCt, dI x.fSn] (dI x.fSn) (Hw (g := w57 r :: w48 p :: G) e0 gx)) <| Oo (fun h0 e0 => xr h0 23 49 2 e48 c.fRt x.fSn q hqx) <| Og 2 <| Oo (fun h0 e0 => call_ok (E' := (XM (w + 1)).E) (h := h0) kr (Args.v (e48 q) (e48 q) kr (Args.v (e48 p) (e48 p) kr Args.nil)) (ok67 0 q p (fitB q p) (f67_eq 0 q p) (w + 1) om)) <| Og 1 <| On ?_
 cases hfit : fitB q p with
 | false =>
  rw [hfit] at hg
  refine Hz <| Hk <| blkH.n <| seqH.n ?_
  exact last d T G _ om hI (by simpa using hg) kr
 | true =>
  rw [hfit] at hg
  refine Hy ?_
  obtain ⟨G', ha, hI'⟩ := hI.push (a := w57 r) (b := w48 p) (⟨x.fCt, w64 (x.fSn + 1)⟩ : S111) om
  refine Hr hxr <| Og 2 <| Oo (fun h0 e0 => lq ti3 g 0 [dI x.fCt, dI x.fSn] (dI x.fCt) (Hw (g := w57 r :: w48 p :: G) e0 gx)) <| Og 1 <| Oo (fun h0 e0 => lq ti3 g 1 [dI x.fCt, dI x.fSn] (dI x.fSn) (Hw (g := w57 r :: w48 p :: G) e0 gx)) <| Og 3 <| Oo (fun h0 e0 => ha h0 (e0.trans kr)) <| Og 1 <| Od <| blkH.n <| seqH.n <| last _ _ G' _ (by simp; omega) hI' ?_ kr
  rw [w64_id ⟨om, om⟩, List.append_assoc]
  exact hg
theorem wk68 (w : Nat) (hl : l.length ≤ 1000000) (hok : ∀ h ∈ l, Hok r h) :
  HT (bodyOf Try.prog 68) (startIn Try.prog 68 [.v (e57 r), dP e111 l, .v (e48 p)] []) (fun e σ => (e = .normal ∨ e = .ret) ∧ ∃ d G, resultsD TM σ (resOf Try.prog 68) = some d ∧ σ.heap = w57 r :: w48 p :: G ∧ Td2 G d (onS r p l)) := by
 have hxn := hxM w
 refine Hs <| Hr hxn <| Og 3 <| On <| Hs <| Hr hxn <| Og 1 <| On <| Hf [1, 3, 5, 7] (Sm 49 [(1, dP e111 l), (3, .ptr 0 0), (5, .ptr 1 0), (7, .v nilS)] [w57 r, w48 p]) <| Hs <| loop68 w hl hok fun d G σ hI hσ => ?_
 refine seqH.n <| Hg [7] hσ <| Hs <| Hr hxn <| Og 2 <| On <| Ht.ret kr ?_
 exact ⟨.inr rfl, d, G, kr, kr, hI⟩
theorem is68 : Is Try.prog 68 := ⟨Try.f68, Try.func68, kr, kr⟩
theorem valBack {DR : Prop} {P : Program} {f : FuncId} {vs : List V} {r : V} (hc : CallT DR P f (vs.map .v) [] fun d h' => d = .v r) (h : List AObj) :
  CallT DR P f (vs.map .v) h fun d h' => d = .v r ∧ h' = h := by
 intro S β w us hrel hi
 refine (hc S [] w us (relL_pure hrel) (hinv_nil hi.sb hi.gl)).mono ?_
 rintro e w' ⟨d, h1, v, S1, β1, rfl, rfl, hE, hI, hR⟩
 have hin : ∀ b i, S1 b i → S b i ∨ w.heap.size ≤ b := by
  intro b i hs
  rcases hE.stay b i hs with g | g | ⟨r, c, k, g⟩
  ·exact .inl g
  ·exact .inr g
  ·simp at g
 obtain ⟨e1, e2⟩ := back_from (S' := S1) (h1 := h1) hi hE (fun _ _ h => h) (fun b i hs => (hE.keeps b i hs).1) hin hI.sb
 exact ⟨_, _, _, S1, _, ⟨rfl, rfl⟩, rfl, e1, e2, .v _ _ hR.of_v⟩
theorem call68 (hl : l.length ≤ 1000000) (hok : ∀ h ∈ l, Hok r h) (h : List AObj) :
  ∃ d h', ((d = .v nilS ∧ onS r p l = [] ∧ h' = h) ∨ (d = .osl h.length 0 (onS r p l).length false ∧ onS r p l ≠ [] ∧ h' = h ++ [oH (onS r p l)])) ∧
   CallT False Try.prog 68 [.v (e57 r), dP e111 l, .v (e48 p)] h fun d0 h0 => d0 = d ∧ h0 = h' := by
 have hc := callT_of_ht (Qc := fun d h' => ∃ G, h' = w57 r :: w48 p :: G ∧ Td2 G d (onS r p l)) (c := bodyOf Try.prog 68) (h := []) Try.func68 kr TM_ok ((wk68 0 (p := p) hl hok).mono fun e σ ⟨h1, d, G, h2, h3, h4⟩ => ⟨h1, d, h2, G, h3, h4⟩)
 by_cases hz : onS r p l = []
 ·refine ⟨.v nilS, h, .inl ⟨rfl, hz, rfl⟩, ?_⟩
  refine valBack (vs := [e57 r, vP e111 l, e48 p]) (hc.mono ?_) h
  rintro d h' ⟨G, rfl, h4⟩
  rcases h4 with ⟨rfl, _⟩ | ⟨q, rfl, hq⟩
  ·rfl
  ·exact absurd hz hq.2
 ·refine ⟨.osl h.length 0 (onS r p l).length false, _, .inr ⟨rfl, hz, rfl⟩, ?_⟩
  have := rowBack (DR := False) (P := Try.prog) (f := 68) (vs := [e57 r, vP e111 l, e48 p]) (es := (onS r p l).map e111) (k := 2) (hc.mono fun d h' hd => by
   obtain ⟨G, rfl, h4⟩ := hd
   rw [List.length_map]
   rcases h4 with ⟨_, h5⟩ | ⟨q, rfl, hq⟩
   ·exact absurd h5 hz
   ·exact ⟨q + 2, rfl, hq.1⟩) h
  rw [List.length_map] at this
  exact this
theorem call68p (hl : l.length ≤ 1000000) (hok : ∀ h ∈ l, Hok r h) : CallT False Try.prog 68 [.v (e57 r), dP e111 l, .v (e48 p)] [] fun d h' => d = dP e111 (onS r p l) ∧ h' = [] :=
 callN (c := bodyOf Try.prog 68) (N := 6) Try.func68 kr TM_ok ((wk68 0 (p := p) hl hok).mono fun e σ ⟨h1, d, G, h2, h3, h4⟩ => ⟨h1, d, h2, by
  rw [h3]
  rcases h4 with ⟨rfl, h5⟩ | ⟨q, rfl, hq, _⟩
  ·rw [h5]; rfl
  ·have hq' : (w57 r :: w48 p :: G)[q + 2]? = some (oH (onS r p l)) := hq
   simp only [Abs.frz, hq', oH]
   simp
   exact zX (by simp)⟩)
end Go.Abs.Th
