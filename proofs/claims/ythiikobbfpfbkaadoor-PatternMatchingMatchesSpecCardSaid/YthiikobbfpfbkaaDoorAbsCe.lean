import Derived.Test.YthiikobbfpfbkaaDoorAbsN
namespace Go.Abs
set_option linter.unusedVariables false
def fL {α β : Type} (g : β → (β → α) → α) : List β → (List β → α) → α
  | [], k => k []
  | x :: r, k => g x fun x => fL g r fun r => k (x :: r)
theorem fL_eq {α β : Type} {g : β → (β → α) → α} (hg : ∀ x k, g x k = k x) : ∀ (l : List β) (k : List β → α), fL g l k = k l
  | [], k => rfl
  | x :: r, k => by rw [fL, hg, fL_eq hg r]
def fNat {α : Type} (n : Nat) (k : Nat → α) : α := match n with
  | 0 => k 0
  | m + 1 => k (m + 1)
theorem fNat_eq {α : Type} (n : Nat) (k : Nat → α) : fNat n k = k n := by cases n <;> rfl
def fInt {α : Type} (n : Int) (k : Int → α) : α := match n with
  | .ofNat m => fNat m fun m => k (.ofNat m)
  | .negSucc m => fNat m fun m => k (.negSucc m)
theorem fInt_eq {α : Type} (n : Int) (k : Int → α) : fInt n k = k n := by cases n <;> simp only [fInt, fNat_eq]
def fBool {α : Type} (b : Bool) (k : Bool → α) : α := match b with
  | true => k true
  | false => k false
theorem fBool_eq {α : Type} (b : Bool) (k : Bool → α) : fBool b k = k b := by cases b <;> rfl
def fFl {α : Type} (b : SFlag) (k : SFlag → α) : α := match b with
  | .plain => k .plain
  | .nil => k .nil
  | .full => k .full
  | .non => k .non
  | .nonfull => k .nonfull
theorem fFl_eq {α : Type} (b : SFlag) (k : SFlag → α) : fFl b k = k b := by cases b <;> rfl
def fV {α : Type} : Nat → V → (V → α) → α
  | 0, x, k => k x
  | n + 1, x, k => match x with
    | .bool b => fBool b fun b => k (.bool b)
    | .int t i => fInt i fun i => k (.int t i)
    | .str s => k (.str s)
    | .nilptr => k .nilptr
    | .nilmap => k .nilmap
    | .nilfunc => k .nilfunc
    | .fn f => k (.fn f)
    | .clo f cs => fL (fV n) cs fun cs => k (.clo f cs)
    | .sl f es => fFl f fun f => fL (fV n) es fun es => k (.sl f es)
    | .agg cs => fL (fV n) cs fun cs => k (.agg cs)
    | .tuple cs => fL (fV n) cs fun cs => k (.tuple cs)
    | .ptr cs => fL (fV n) cs fun cs => k (.ptr cs)
    | .map ks vs => fL (fV n) ks fun ks => fL (fV n) vs fun vs => k (.map ks vs)
theorem fV_eq {α : Type} : ∀ (n : Nat) (x : V) (k : V → α), fV n x k = k x
  | 0, x, k => rfl
  | n + 1, x, k => by cases x <;> simp only [fV, fBool_eq, fInt_eq, fFl_eq, fL_eq (fV_eq n)]
def fD {α : Type} : Nat → D → (D → α) → α
  | 0, x, k => k x
  | n + 1, x, k => match x with
    | .undef => k .undef
    | .v x => fV 12 x fun x => k (.v x)
    | .ptr r o => fNat r fun r => fNat o fun o => k (.ptr r o)
    | .eptr r i o => fNat r fun r => fNat i fun i => fNat o fun o => k (.eptr r i o)
    | .vptr cs => fL (fV 12) cs fun cs => k (.vptr cs)
    | .osl r o l f => fNat r fun r => fNat o fun o => fNat l fun l => fBool f fun f => k (.osl r o l f)
    | .tsl t es => fNat t fun t => fL (fV 12) es fun es => k (.tsl t es)
    | .map r => fNat r fun r => k (.map r)
    | .func f a b => fL (fD n) a fun a => fL (fD n) b fun b => k (.func f a b)
    | .agg cs => fL (fD n) cs fun cs => k (.agg cs)
    | .tuple cs => fL (fD n) cs fun cs => k (.tuple cs)
theorem fD_eq {α : Type} : ∀ (n : Nat) (x : D) (k : D → α), fD n x k = k x
  | 0, x, k => rfl
  | n + 1, x, k => by cases x <;> simp only [fD, fBool_eq, fNat_eq, fV_eq, fL_eq (fV_eq 12), fL_eq (fD_eq n)]
def fO {α : Type} (x : AObj) (k : AObj → α) : α := match x with
  | .row n es => fNat n fun n => fL (fV 12) es fun es => k (.row n es)
  | .cells cs => fL (fD 8) cs fun cs => k (.cells cs)
  | .tok a n => fNat a fun a => fNat n fun n => k (.tok a n)
  | .map ks vs => fL (fV 12) ks fun ks => fL (fD 8) vs fun vs => k (.map ks vs)
  | .iter m a b c => k (.iter m a b c)
  | .dead => k .dead
theorem fO_eq {α : Type} (x : AObj) (k : AObj → α) : fO x k = k x := by
  cases x <;> simp only [fO, fNat_eq, fL_eq (fV_eq 12), fL_eq (fD_eq 8)]
def fSp {α β : Type} (l : List β) (k : List β → α) : α := fL (fun x k => k x) l k
theorem fSp_eq {α β : Type} (l : List β) (k : List β → α) : fSp l k = k l := fL_eq (fun _ _ => rfl) l k
def fS {α : Type} (σ : St) (k : St → α) : α := match σ with
  | ⟨ts, h⟩ => fL (fD 8) ts fun ts => fL fO h fun h => k ⟨ts, h⟩
theorem fS_eq {α : Type} (σ : St) (k : St → α) : fS σ k = k σ := by
  cases σ
  simp only [fS, fL_eq (fD_eq 8), fL_eq fO_eq]
def mapIx {α β : Type} (f : Nat → α → β) : Nat → List α → List β
  | _, [] => []
  | i, x :: r => f i x :: mapIx f (i + 1) r
theorem mapIx_get {α β : Type} (f : Nat → α → β) : ∀ (l : List α) (i j : Nat), (mapIx f i l)[j]? = (l[j]?).map (f (i + j))
  | [], i, j => by simp [mapIx]
  | x :: r, i, 0 => by simp [mapIx]
  | x :: r, i, j + 1 => by
    simp only [mapIx, List.getElem?_cons_succ, mapIx_get f r (i + 1) j]
    congr 2
    omega
theorem mapIx_eq {α β : Type} (f : Nat → α → β) (l : List α) : mapIx f 0 l = l.mapIdx f := by
  refine List.ext_getElem? fun j => ?_
  rw [mapIx_get, List.getElem?_mapIdx, Nat.zero_add]
def forgetC (keep : List Nat) (σ : St) : St := ⟨mapIx (fun i d => if keep.contains i then d else .undef) 0 σ.tmps, σ.heap⟩
theorem forgetC_eq (keep : List Nat) (σ : St) : forgetC keep σ = forget keep σ := by unfold forgetC forget; rw [mapIx_eq]
def cutSC (keep : List Nat) (L M : Nat) (σ : St) : St :=
  if (σ.heap.drop M).all (AObj.under L) then match allM (AObj.cut L M) (σ.heap.take L), allM id (mapIx (cutD keep L M) 0 σ.tmps) with
    | some hs, some ts => ⟨ts, hs ++ σ.heap.drop M⟩
    | _, _ => σ
  else σ
theorem cutSC_eq (keep : List Nat) (L M : Nat) (σ : St) : cutSC keep L M σ = cutS keep L M σ := by unfold cutSC cutS; rw [mapIx_eq]; rfl
def squashC (keep acc : List Nat) (L : Nat) (σ : St) : St :=
  if acc.isEmpty && σ.heap.length == L then σ else cutSC keep L σ.heap.length (acc.foldl moveS σ)
theorem squashC_eq (keep acc : List Nat) (L : Nat) (σ : St) : squashC keep acc L σ = squash keep acc L σ := by unfold squashC squash; rw [cutSC_eq]
def fH {α : Type} (x : D) (k : D → α) : α := match x with
  | .undef => k .undef
  | .v x => (match x with
    | .int t i => k (.v (.int t i))
    | .bool b => k (.v (.bool b))
    | .str s => k (.v (.str s))
    | .sl f es => k (.v (.sl f es))
    | .agg cs => k (.v (.agg cs))
    | .tuple cs => k (.v (.tuple cs))
    | x => k (.v x))
  | .ptr r o => k (.ptr r o)
  | .eptr r i o => k (.eptr r i o)
  | .vptr cs => k (.vptr cs)
  | .osl r o l f => k (.osl r o l f)
  | .tsl t es => k (.tsl t es)
  | .map r => k (.map r)
  | .func f a b => k (.func f a b)
  | .agg cs => k (.agg cs)
  | .tuple cs => k (.tuple cs)
theorem fH_eq {α : Type} (x : D) (k : D → α) : fH x k = k x := by
  cases x <;> first | rfl | skip
  rename_i x
  cases x <;> rfl
inductive FK where
  | head | val | all
def fkind (op : Op) : FK := match op with
  | .move _ | .assign _ | .pick _ _ _ | .nilCheck _ => .head
  | .build _ _ | .buildSlice _ _ _ | .binOp _ _ _ _ _ | .unOp _ _ _ | .convert _ _ _ | .fieldAddr _ _ _ | .field _ _ _ | .index _ _ _ | .extract _ _ | .load _ _ | .indexAddr _ _ _ | .lookup _ _ _ _ | .entry _ | .slice _ _ _ _ _ => .val
  | _ => .all
def fEff {α : Type} (q : FK) (d : D) (h : List AObj) (k : D → List AObj → α) : α := match q with
  | .head => fH d fun d => k d h
  | .val => fD 8 d fun d => k d h
  | .all => fD 8 d fun d => fL fO h fun h => k d h
theorem fEff_eq {α : Type} (q : FK) (d : D) (h : List AObj) (k : D → List AObj → α) : fEff q d h k = k d h := by
  cases q <;> simp only [fEff, fH_eq, fD_eq, fL_eq fO_eq]
def fSet {α : Type} : List D → Nat → D → (List D → α) → α
  | [], _, _, k => k []
  | _ :: r, 0, d, k => k (d :: r)
  | x :: r, n + 1, d, k => fSet r n d fun r => k (x :: r)
theorem fSet_eq {α : Type} : ∀ (l : List D) (n : Nat) (d : D) (k : List D → α), fSet l n d k = k (l.set n d)
  | [], _, _, k => rfl
  | _ :: r, 0, d, k => rfl
  | x :: r, n + 1, d, k => by rw [fSet, fSet_eq r n d]; rfl
def fPut {α : Type} (σ : St) (t : Option Tmp) (d : D) (h : List AObj) (k : St → α) : α := match t with
  | none => k ⟨σ.tmps, h⟩
  | some t => fSet σ.tmps t d fun ts => k ⟨ts, h⟩
theorem fPut_eq {α : Type} (σ : St) (t : Option Tmp) (d : D) (h : List AObj) (k : St → α) : fPut σ t d h k = k (σ.put t d h) := by
  cases t <;> simp only [fPut, fSet_eq] <;> rfl
def aopsC (E : Env) (Γ : Calling) (ops : List Oper) : List Oper → St → Option St
  | [], σ => some σ
  | o :: r, σ => match aeff E Γ ops o σ with
    | some (d, h) => fEff (fkind o.op) d h fun d h => fPut σ o.dst d h fun σ' => aopsC E Γ ops r σ'
    | none => none
theorem aopsC_eq (E : Env) (Γ : Calling) (ops : List Oper) : ∀ (l : List Oper) (σ : St), aopsC E Γ ops l σ = aops E Γ ops l σ
  | [], σ => rfl
  | o :: r, σ => by
    simp only [aopsC, aops, aop]
    cases aeff E Γ ops o σ with
    | none => rfl
    | some p =>
      obtain ⟨d, h⟩ := p
      simp only [fEff_eq, fPut_eq]
      exact aopsC_eq E Γ ops r _
def aloopC (ks acc : List Nat) (L : Nat) (body : St → Option (AExit × St)) : Nat → St → Option (AExit × St)
  | 0, _ => none
  | n + 1, σ => match body σ with
    | some (.normal, σ') => fS (squashC ks acc L (forgetC ks σ')) fun σ'' => aloopC ks acc L body n σ''
    | some (e, σ') => some (e, forgetC ks σ')
    | none => none
theorem aloopC_eq {ks acc : List Nat} {L : Nat} {b1 b2 : St → Option (AExit × St)} (hb : ∀ σ, b1 σ = b2 σ) : ∀ (n : Nat) (σ : St), aloopC ks acc L b1 n σ = aloop ks acc L b2 n σ
  | 0, σ => rfl
  | n + 1, σ => by
    simp only [aloopC, aloop, hb, fS_eq, squashC_eq, forgetC_eq]
    cases b2 σ with
    | none => rfl
    | some p =>
      obtain ⟨e, s⟩ := p
      cases e <;> first | exact aloopC_eq hb n _ | rfl
def aevalC (ok : Bool) (E : Env) (Γ : Calling) (keep : Keep) (acc : List Nat) (n : Nat) : Code → St → Option (AExit × St)
  | .skip, σ => some (.normal, σ)
  | .region _ ops draw, σ => if !ok && (draw && (!orderFree E ops && (!lateOk E ops && !farOk E ops σ))) then (parRun E ops σ).map fun σ' => (.normal, σ') else match aopsC E Γ ops.toList ops.toList σ with
    | some σ' => some (.normal, σ')
    | none => none
  | .seq a b, σ => match aevalC ok E Γ keep acc n a σ with
    | some (.normal, σ') => aevalC ok E Γ keep acc n b σ'
    | r => r
  | .cond c t e, σ => match σ.ev c with
    | .v (.bool b) => match (if b then aevalC ok E Γ keep acc n t σ else aevalC ok E Γ keep acc n e σ) with
      | some (.normal, σ') => fS (squashC (keep.cond (okey c)) acc σ.heap.length σ') fun σ'' => some (.normal, σ'')
      | r => r
    | _ => none
  | .block id c, σ => match aevalC ok E Γ keep acc n c σ with
    | some (.exit id', σ') => if id' = id then fS (squashC (keep.blk id) acc σ.heap.length σ') fun σ'' => some (.normal, σ'') else some (.exit id', σ')
    | some (.normal, σ') => fS (squashC (keep.blk id) acc σ.heap.length σ') fun σ'' => some (.normal, σ'')
    | r => r
  | .loop c, σ => fS (squashC (keep.loop (ckey c)) acc σ.heap.length (forgetC (keep.loop (ckey c)) σ)) fun σ' => aloopC (keep.loop (ckey c)) acc σ.heap.length (aevalC ok E Γ keep acc n c) n σ'
  | .exit id, σ => some (.exit id, σ)
  | .ret, σ => some (.ret, σ)
  | _, _ => none
def codeOk (E : Env) : Code → Bool
  | .region _ ops draw => !draw || (orderFree E ops || lateOk E ops)
  | .seq a b => codeOk E a && codeOk E b
  | .cond _ a b => codeOk E a && codeOk E b
  | .block _ c => codeOk E c
  | .loop c => codeOk E c
  | _ => true
theorem aevalC_eq (ok : Bool) (E : Env) (Γ : Calling) (keep : Keep) (acc : List Nat) (n : Nat) (c : Code) : (ok = true → codeOk E c = true) → ∀ σ, aevalC ok E Γ keep acc n c σ = aeval E Γ keep acc n c σ := by
  induction c with
  | region id ops draw =>
    intro hok σ
    simp only [aevalC, aeval, aopsC_eq]
    cases ok with
    | false => simp only [Bool.not_false, Bool.true_and]; rfl
    | true =>
      have := hok rfl
      simp only [codeOk] at this
      have e : (draw && (!orderFree E ops && (!lateOk E ops && !farOk E ops σ))) = false := by
        cases draw <;> cases h1 : orderFree E ops <;> cases h2 : lateOk E ops <;> simp_all
      simp only [Bool.not_true, Bool.false_and, e]
      rfl
  | seq a b iha ihb =>
    intro hok σ
    have ha := iha fun h => by have := hok h; simp only [codeOk, Bool.and_eq_true] at this; exact this.1
    have hb := ihb fun h => by have := hok h; simp only [codeOk, Bool.and_eq_true] at this; exact this.2
    simp only [aevalC, aeval, ha]
    cases aeval E Γ keep acc n a σ with
    | none => rfl
    | some p =>
      obtain ⟨e, s⟩ := p
      cases e <;> first | exact hb _ | rfl
  | cond c t e iht ihe =>
    intro hok σ
    have ha := iht fun h => by have := hok h; simp only [codeOk, Bool.and_eq_true] at this; exact this.1
    have hb := ihe fun h => by have := hok h; simp only [codeOk, Bool.and_eq_true] at this; exact this.2
    simp only [aevalC, aeval, ha, hb, fS_eq, squashC_eq]
    rfl
  | block id c ih =>
    intro hok σ
    have ha := ih fun h => by have := hok h; simpa only [codeOk] using this
    simp only [aevalC, aeval, ha, fS_eq, squashC_eq]
    rfl
  | loop c ih =>
    intro hok σ
    have ha := ih fun h => by have := hok h; simpa only [codeOk] using this
    simp only [aevalC, aeval, fS_eq, squashC_eq, forgetC_eq]
    exact aloopC_eq ha _ _
  | _ => intro _ σ; rfl
def fOk (P : Program) (E : Env) (f : Nat) : Bool := match P.funcs[f]? with
  | some fn => match fn.body with
    | some c => codeOk { E with rowM := E.rowF f, untS := E.untF f } c
    | none => true
  | none => true
def runC (okF : List Nat) (P : Program) (E : Env) : Nat → Calling
  | 0, _, _, _ => none
  | n + 1, f, ds, h => match P.funcs[f]? with
    | none => none
    | some fn => match E.oraD f with
     | some F => F ds h
     | none => match E.ora f with
      | some F => match pures (ds.map D.unt) with
        | some vs => (F vs).map (.v ·, h)
        | none => none
      | none => match fn.body with
        | none => none
        | some c => fS ⟨ds ++ List.replicate (fn.ntmps - ds.length) U, h⟩ fun σ0 => match aevalC (okF.contains f) { E with rowM := E.rowF f, untS := E.untF f } (runC okF P E n) (E.keep f) (E.acc f) n c σ0 with
          | some (.normal, σ) | some (.ret, σ) => (resultsD E.T σ fn.results.toList).map (·, σ.heap)
          | _ => none
theorem runC_eq (okF : List Nat) (P : Program) (E : Env) (hok : okF.all (fOk P E) = true) : ∀ n, runC okF P E n = run P E n
  | 0 => rfl
  | n + 1 => by
    funext f ds h
    simp only [runC, run, runC_eq okF P E hok n, fS_eq]
    cases hf : P.funcs[f]? with
    | none => rfl
    | some fn =>
      dsimp only
      cases E.oraD f with
      | some F => rfl
      | none =>
        dsimp only
        cases E.ora f with
        | some F => rfl
        | none =>
          dsimp only
          cases hb : fn.body with
          | none => rfl
          | some c =>
            dsimp only
            rw [aevalC_eq _ _ _ _ _ _ c fun h => by
              have h1 := List.all_eq_true.1 hok f (by simpa using h)
              unfold fOk at h1
              rw [hf] at h1
              dsimp only at h1
              rw [hb] at h1
              exact h1]
            rfl
def runVC (okF : List Nat) (P : Program) (E : Env) (n : Nat) (f : FuncId) (vs : List V) : Option V :=
  match runC okF P E n f (vs.map .v) [] with
  | some (d, h) => frz h 6 d
  | none => none
theorem runVC_eq (okF : List Nat) (P : Program) (E : Env) (hok : okF.all (fOk P E) = true) (n : Nat) (f : FuncId) (vs : List V) : runVC okF P E n f vs = runV P E n f vs := by
  unfold runVC runV
  rw [runC_eq okF P E hok]
  rfl
theorem allOk_app {P : Program} {E : Env} {a b : List Nat} (ha : a.all (fOk P E) = true) (hb : b.all (fOk P E) = true) : (a ++ b).all (fOk P E) = true := by rw [List.all_append, ha, hb]; rfl
def eqFl : SFlag → SFlag → Bool
  | .plain, .plain | .nil, .nil | .full, .full | .non, .non | .nonfull, .nonfull => true
  | _, _ => false
theorem eqFl_eq {a b : SFlag} (h : eqFl a b = true) : a = b := by cases a <;> cases b <;> first | rfl | cases h
def eqVs (g : V → V → Bool) : List V → List V → Bool
  | [], [] => true
  | x :: r, y :: s => g x y && eqVs g r s
  | _, _ => false
theorem eqVs_eq {g : V → V → Bool} (hg : ∀ x y, g x y = true → x = y) : ∀ {a b : List V}, eqVs g a b = true → a = b
  | [], [], _ => rfl
  | x :: r, y :: s, h => by
    simp only [eqVs, Bool.and_eq_true] at h
    rw [hg _ _ h.1, eqVs_eq hg h.2]
  | [], _ :: _, h => by cases h
  | _ :: _, [], h => by cases h
def eqVb : Nat → V → V → Bool
  | 0, _, _ => false
  | n + 1, x, y => match x, y with
    | .bool a, .bool b => a == b
    | .int k a, .int k' b => decide (k = k') && decide (a = b)
    | .str a, .str b => a.data.toList == b.data.toList
    | .sl f a, .sl g b => eqFl f g && eqVs (eqVb n) a b
    | .agg a, .agg b => eqVs (eqVb n) a b
    | .tuple a, .tuple b => eqVs (eqVb n) a b
    | _, _ => false
theorem eqVb_eq : ∀ (n : Nat) (x y : V), eqVb n x y = true → x = y
  | 0, _, _, h => by cases h
  | n + 1, x, y, h => by
    unfold eqVb at h
    split at h
    · rw [eq_of_beq h]
    · simp only [Bool.and_eq_true, decide_eq_true_eq] at h
      rw [h.1, h.2]
    · rename_i a b
      have := eq_of_beq h
      cases a; cases b
      exact congrArg (fun z => V.str ⟨z⟩) (Array.ext' this)
    · simp only [Bool.and_eq_true] at h
      rw [eqFl_eq h.1, eqVs_eq (eqVb_eq n) h.2]
    · rw [eqVs_eq (eqVb_eq n) h]
    · rw [eqVs_eq (eqVb_eq n) h]
    · cases h
def tabF (tab : List (List V × V)) (vs : List V) : Option V := match tab with
  | [] => none
  | (a, r) :: t => if eqVs (eqVb 12) a vs then some r else tabF t vs
def stepD (P : Program) (E : Env) (Γ : Calling) (n : Nat) : Calling := fun f ds h => match P.funcs[f]? with
  | none => none
  | some fn => match fn.body with
    | none => none
    | some c => match aeval { E with rowM := E.rowF f, untS := E.untF f } Γ (E.keep f) (E.acc f) n c ⟨ds ++ List.replicate (fn.ntmps - ds.length) U, h⟩ with
      | some (.normal, σ) | some (.ret, σ) => (resultsD E.T σ fn.results.toList).map (·, σ.heap)
      | _ => none
theorem stepD_sound {DR : Prop} {P : Program} {E : Env} (hG : Good DR P E) {Γ : Calling} (hΓ : CSound DR P Γ) (n : Nat) : CSound DR P (stepD P E Γ n) := by
  intro f ds h d h' hd
  unfold stepD at hd
  split at hd
  · cases hd
  · rename_i fn hfn
    split at hd
    · cases hd
    · rename_i c hc
      refine ⟨⟨fn, hfn, by rw [hc]; rfl, hG.names f fn hfn⟩, fun S β w us hrel hi => ?_⟩
      have hstart : Inv S β ⟨ds ++ List.replicate (fn.ntmps - ds.length) U, h⟩ { tmps := us ++ Array.replicate (fn.ntmps - us.size) undef, defers := [] } w := by
        refine ⟨by simp [hrel.1], fun i v d h1 h2 => ?_, hi, rfl⟩
        rw [Array.getElem?_append] at h1
        simp only [List.getElem?_append] at h2
        split at h1
        · rename_i hlt
          rw [if_pos (by rw [← hrel.1]; exact hlt)] at h2
          exact hrel.2 i v d h1 h2
        · rename_i hlt
          rw [if_neg (by rw [← hrel.1]; exact hlt)] at h2
          have e1 := (Array.mem_replicate.1 (Array.mem_of_getElem? h1)).2
          have e2 := (List.mem_replicate.1 (List.mem_of_getElem? h2)).2
          subst e1 e2
          exact .v _ _ (.tuple _ _ rfl (fun i v x hv => by simp at hv))
      have fin : ∀ (e : AExit) (σ : St), aeval { E with rowM := E.rowF f, untS := E.untF f } Γ (E.keep f) (E.acc f) n c ⟨ds ++ List.replicate (fn.ntmps - ds.length) U, h⟩ = some (e, σ) → (e = .normal ∨ e = .ret) → (resultsD E.T σ fn.results.toList).map (·, σ.heap) = some (d, h') →
          Calls P f us w fun e w' => ∃ v S' β', e = .returned v ∧ Ext DR S β w S' β' w' ∧ HInv S' β' w' h' ∧ RelD S' β' w' v d := by
        intro e σ h1 he h2
        obtain ⟨r, hr, he2⟩ := Option.map_eq_some_iff.1 h2
        obtain ⟨rfl, rfl⟩ := Prod.mk.inj he2
        refine calls_of_wp hfn hc (wp_mono (aeval_sound (E := { E with rowM := E.rowF f, untS := E.untF f }) hG.mixed hG.types hΓ _ _ n c _ e σ h1 S β _ w hstart) ?_)
        rintro ex a' w' ⟨rfl, S', β', hI', hE'⟩
        obtain ⟨v, h3, h4⟩ := resultsD_sound hG.types hI' hr
        rcases he with rfl | rfl
        · exact ⟨hI'.defers, v, h3, v, S', β', rfl, hE', hI'.heap, h4⟩
        · exact ⟨hI'.defers, v, h3, v, S', β', rfl, hE', hI'.heap, h4⟩
      split at hd
      · rename_i σ h1; exact fin _ σ h1 (.inl rfl) hd
      · rename_i σ h1; exact fin _ σ h1 (.inr rfl) hd
      · cases hd
theorem pureCallsG {DR : Prop} {P : Program} {Γ : Calling} (hΓ : CSound DR P Γ) {f : FuncId} {xs : List V} {d : D} {h1 : List AObj} {r : V} (hrun : Γ f (xs.map .v) [] = some (d, h1)) (hr : frz h1 6 d = some r) :
    Is P f ∧ ∀ S w us, RelL S [] w us (xs.map .v) → (∀ b i, S b i → b < w.heap.size) → Glob S w → Calls P f us w fun e w' => ∃ v S', e = .returned v ∧ Ext DR S [] w S' [] w' ∧ HInv S' [] w' [] ∧ RelV S' w' v r := by
  obtain ⟨hex, hcalls⟩ := hΓ f _ [] d h1 hrun
  refine ⟨hex, fun S w us hrel hsb hgl => (hcalls S [] w us hrel (hinv_nil hsb hgl)).mono ?_⟩
  rintro e w1 ⟨v, S1, β1, rfl, hE, hI, hR⟩
  have hin : ∀ b i, withOwn S1 β1 h1 b i → S b i ∨ w.heap.size ≤ b := by
    intro b i hs
    rcases hs with hs | ⟨r, o, c, k, g1, g2, g3⟩
    · rcases hE.stay b i hs with g | g | ⟨r, c, k, g⟩
      · exact .inl g
      · exact .inr g
      · simp at g
    · obtain ⟨k0, rfl⟩ := hI.kpos g1 g2 g3
      rcases hE.fresh r b c k0 g3 with g | ⟨r', c', k', g⟩
      · exact .inr g
      · simp at g
  obtain ⟨e1, e2⟩ := back_from (S' := withOwn S1 β1 h1) (h1 := h1) (hinv_nil hsb hgl) hE (fun _ _ h => h) (fun b i hs => .inl (hE.keeps b i hs).1) hin (own_sb hI)
  exact ⟨v, _, rfl, e1, e2, frz_sound hI 6 _ _ _ hr hR⟩
def stepC (okF : List Nat) (P : Program) (E : Env) (Γ : Calling) (n : Nat) : Calling := fun f ds h => match P.funcs[f]? with
  | none => none
  | some fn => match fn.body with
    | none => none
    | some c => fS ⟨ds ++ List.replicate (fn.ntmps - ds.length) U, h⟩ fun σ0 => match aevalC (okF.contains f) { E with rowM := E.rowF f, untS := E.untF f } Γ (E.keep f) (E.acc f) n c σ0 with
      | some (.normal, σ) | some (.ret, σ) => (resultsD E.T σ fn.results.toList).map (·, σ.heap)
      | _ => none
theorem stepC_eq (okF : List Nat) (P : Program) (E : Env) (hok : okF.all (fOk P E) = true) (Γ : Calling) (n : Nat) : stepC okF P E Γ n = stepD P E Γ n := by
  funext f ds h
  simp only [stepC, stepD, fS_eq]
  cases hf : P.funcs[f]? with
  | none => rfl
  | some fn =>
    dsimp only
    cases hb : fn.body with
    | none => rfl
    | some c =>
      dsimp only
      rw [aevalC_eq _ _ _ _ _ _ c fun h => by
        have h1 := List.all_eq_true.1 hok f (by simpa using h)
        unfold fOk at h1
        rw [hf] at h1
        dsimp only at h1
        rw [hb] at h1
        exact h1]
def runS (okF : List Nat) (P : Program) (E E' : Env) (n : Nat) (f : FuncId) (vs : List V) : Option V :=
  match stepC okF P E (runC okF P E' n) n f (vs.map .v) [] with
  | some (d, h) => frz h 6 d
  | none => none
theorem tabS_sound {DR : Prop} {P : Program} {E E' : Env} (hG : Good DR P E) (hG' : Good DR P E') {okF : List Nat} (hok : okF.all (fOk P E) = true) (hok' : okF.all (fOk P E') = true) {f : FuncId} (hf : Is P f) (n : Nat) :
    ∀ (tab : List (List V × V)), (∀ p ∈ tab, runS okF P E E' n f p.1 = some p.2) → OraOk DR P f (tabF tab)
  | [], _ => ⟨hf, fun vs r h => by cases h⟩
  | (a, r) :: t, hp => by
    refine ⟨hf, fun vs x h => ?_⟩
    unfold tabF at h
    split at h
    · rename_i he
      cases h
      have := eqVs_eq (eqVb_eq 12) he
      subst this
      have hr := hp _ List.mem_cons_self
      unfold runS at hr
      split at hr
      · rename_i d h' hd
        rw [stepC_eq okF P E hok, runC_eq okF P E' hok'] at hd
        exact (pureCallsG (stepD_sound hG (run_sound hG' n) n) hd hr).2
      · cases hr
    · exact (tabS_sound hG hG' hok hok' hf n t fun p hm => hp p (List.mem_cons_of_mem _ hm)).2 vs x h
def orF (F G : List V → Option V) (vs : List V) : Option V := match F vs with
  | some r => some r
  | none => G vs
theorem orF_ok {DR : Prop} {P : Program} {f : FuncId} {F G : List V → Option V} (hF : OraOk DR P f F) (hG : OraOk DR P f G) : OraOk DR P f (orF F G) := by
  refine ⟨hF.1, fun vs r h => ?_⟩
  unfold orF at h
  split at h
  · rename_i e; cases h; exact hF.2 vs _ e
  · exact hG.2 vs r h
def Env.with (E : Env) (f0 : FuncId) (F0 : List V → Option V) : Env := { E with ora := fun f => if f = f0 then some F0 else E.ora f }
theorem Good.with {DR : Prop} {P : Program} {E : Env} (hG : Good DR P E) {f0 : FuncId} {F0 : List V → Option V} (h : OraOk DR P f0 F0) : Good DR P (E.with f0 F0) := by
  refine ⟨hG.mixed, hG.types, hG.names, fun f F hF => ?_, hG.oraD⟩
  have hF : (if f = f0 then some F0 else E.ora f) = some F := hF
  by_cases e : f = f0
  · rw [if_pos e] at hF
    have e2 : F0 = F := Option.some.inj hF
    rw [← e2, e]
    exact h
  · rw [if_neg e] at hF
    exact hG.ora f F hF
end Go.Abs
