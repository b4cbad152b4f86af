import Derived.Test.YtgmbaemdedachaaAbsX
import Derived.KernelRfl
namespace Go.Abs
theorem kr.{u} {α : Sort u} {a b : α} (h : a = b := by kernel_rfl) : a = b := h
set_option linter.unusedVariables false
set_option linter.unusedSimpArgs false
set_option linter.unnecessarySimpa false
abbrev dI (x : Int) : D := .v (.int .i64 x)
abbrev dB (b : Bool) : D := .v (.bool b)
abbrev dP {α : Type} (f : α → V) (l : List α) : D := .v (.sl .plain (List.map f l))
abbrev vI (x : Int) : V := .int .i64 x
abbrev vB (b : Bool) : V := .bool b
abbrev vP {α : Type} (f : α → V) (l : List α) : V := .sl .plain (List.map f l)
abbrev u1 (l : List D) : List D := U :: l
abbrev u2 (l : List D) : List D := U :: U :: l
abbrev u3 (l : List D) : List D := U :: U :: U :: l
abbrev u4 (l : List D) : List D := U :: U :: U :: U :: l
abbrev u5 (l : List D) : List D := U :: U :: U :: U :: U :: l
abbrev u6 (l : List D) : List D := U :: U :: U :: U :: U :: U :: l
abbrev u7 (l : List D) : List D := U :: U :: U :: U :: U :: U :: U :: l
abbrev u8 (l : List D) : List D := U :: U :: U :: U :: U :: U :: U :: U :: l
abbrev u9 (l : List D) : List D := U :: U :: U :: U :: U :: U :: U :: U :: U :: l
abbrev u10 (l : List D) : List D := U :: U :: U :: U :: U :: U :: U :: U :: U :: U :: l
abbrev u11 (l : List D) : List D := u5 (u6 l)
abbrev u12 (l : List D) : List D := u6 (u6 l)
abbrev u13 (l : List D) : List D := u6 (u7 l)
abbrev u14 (l : List D) : List D := u7 (u7 l)
abbrev u15 (l : List D) : List D := u7 (u8 l)
abbrev u16 (l : List D) : List D := u8 (u8 l)
abbrev u17 (l : List D) : List D := u8 (u9 l)
abbrev u18 (l : List D) : List D := u9 (u9 l)
abbrev u19 (l : List D) : List D := u9 (u10 l)
abbrev u20 (l : List D) : List D := u10 (u10 l)
abbrev u21 (l : List D) : List D := u10 (u11 l)
abbrev u24 (l : List D) : List D := u12 (u12 l)
abbrev u25 (l : List D) : List D := u12 (u13 l)
abbrev u29 (l : List D) : List D := u14 (u15 l)
abbrev u30 (l : List D) : List D := u15 (u15 l)
abbrev u32 (l : List D) : List D := u16 (u16 l)
abbrev u33 (l : List D) : List D := u16 (u17 l)
abbrev u34 (l : List D) : List D := u17 (u17 l)
abbrev u35 (l : List D) : List D := u17 (u18 l)
abbrev u36 (l : List D) : List D := u18 (u18 l)
abbrev u37 (l : List D) : List D := u18 (u19 l)
abbrev u38 (l : List D) : List D := u19 (u19 l)
abbrev u39 (l : List D) : List D := u19 (u20 l)
abbrev u40 (l : List D) : List D := u20 (u20 l)
abbrev q1 (l : List D) : List D := .undef :: l
abbrev q2 (l : List D) : List D := .undef :: .undef :: l
abbrev q3 (l : List D) : List D := .undef :: .undef :: .undef :: l
abbrev q4 (l : List D) : List D := .undef :: .undef :: .undef :: .undef :: l
abbrev q5 (l : List D) : List D := .undef :: .undef :: .undef :: .undef :: .undef :: l
abbrev q6 (l : List D) : List D := .undef :: .undef :: .undef :: .undef :: .undef :: .undef :: l
abbrev q7 (l : List D) : List D := .undef :: .undef :: .undef :: .undef :: .undef :: .undef :: .undef :: l
abbrev q8 (l : List D) : List D := .undef :: .undef :: .undef :: .undef :: .undef :: .undef :: .undef :: .undef :: l
abbrev q9 (l : List D) : List D := .undef :: .undef :: .undef :: .undef :: .undef :: .undef :: .undef :: .undef :: .undef :: l
abbrev q10 (l : List D) : List D := .undef :: .undef :: .undef :: .undef :: .undef :: .undef :: .undef :: .undef :: .undef :: .undef :: l
abbrev q11 (l : List D) : List D := q5 (q6 l)
abbrev q12 (l : List D) : List D := q6 (q6 l)
abbrev q13 (l : List D) : List D := q6 (q7 l)
abbrev q14 (l : List D) : List D := q7 (q7 l)
abbrev q15 (l : List D) : List D := q7 (q8 l)
abbrev q16 (l : List D) : List D := q8 (q8 l)
abbrev q17 (l : List D) : List D := q8 (q9 l)
abbrev q18 (l : List D) : List D := q9 (q9 l)
abbrev q19 (l : List D) : List D := q9 (q10 l)
abbrev q20 (l : List D) : List D := q10 (q10 l)
abbrev q22 (l : List D) : List D := q11 (q11 l)
abbrev q24 (l : List D) : List D := q12 (q12 l)
abbrev q25 (l : List D) : List D := q12 (q13 l)
abbrev q26 (l : List D) : List D := q13 (q13 l)
abbrev q27 (l : List D) : List D := q13 (q14 l)
abbrev q28 (l : List D) : List D := q14 (q14 l)
abbrev q29 (l : List D) : List D := q14 (q15 l)
abbrev q30 (l : List D) : List D := q15 (q15 l)
abbrev q31 (l : List D) : List D := q15 (q16 l)
abbrev q32 (l : List D) : List D := q16 (q16 l)
abbrev q33 (l : List D) : List D := q16 (q17 l)
abbrev q34 (l : List D) : List D := q17 (q17 l)
abbrev q37 (l : List D) : List D := q18 (q19 l)
abbrev q38 (l : List D) : List D := q19 (q19 l)
abbrev q40 (l : List D) : List D := q20 (q20 l)
structure Cx where
 E : Env
 Γ : Calling
 keep : Keep
 acc : List Nat
 n : Nat
abbrev Post := AExit → St → Prop
def Wp (X : Cx) (c : Code) (σ : St) (Q : Post) : Prop := ∃ e σ', aeval X.E X.Γ X.keep X.acc X.n c σ = some (e, σ') ∧ Q e σ'
def Lp (X : Cx) (ks : List Nat) (L : Nat) (c : Code) (n : Nat) (σ : St) (Q : Post) : Prop := ∃ e σ', aloop ks X.acc L (aeval X.E X.Γ X.keep X.acc X.n c) n σ = some (e, σ') ∧ Q e σ'
def Ops (X : Cx) (ops : List Oper) (i : Nat) (σ : St) (Q : St → Prop) : Prop := ∃ σ', aops X.E X.Γ ops (ops.drop i) σ = some σ' ∧ Q σ'
def bodyOf (P : Program) (f : Nat) : Code := match P.funcs[f]? with
 | some fn => match fn.body with
  | some c => c
  | none => .skip
 | none => .skip
def opl : Code → List Oper
 | .region _ ops _ => ops.toList
 | _ => []
def condOp : Code → Operand
 | .cond o _ _ => o
 | _ => .tmp 0
def regionOk (E : Env) : Code → Bool
 | .region _ ops draw => !(draw && (!orderFree E ops && !lateOk E ops))
 | _ => false
def seqQ (X : Cx) (b : Code) (Q : Post) : Post
 | .normal, σ => Wp X b σ Q
 | e, σ => Q e σ
def sqQ (X : Cx) (ks : List Nat) (L : Nat) (Q : Post) : Post
 | .normal, σ => Q .normal (squash ks X.acc L σ)
 | e, σ => Q e σ
def blkQ (X : Cx) (id : Nat) (ks : List Nat) (L : Nat) (Q : Post) : Post
 | .normal, σ => Q .normal (squash ks X.acc L σ)
 | .exit id', σ => if id' = id then Q .normal (squash ks X.acc L σ) else Q (.exit id') σ
 | .ret, σ => Q .ret σ
def lpQ (X : Cx) (ks : List Nat) (L : Nat) (c : Code) (n : Nat) (Q : Post) : Post
 | .normal, σ => Lp X ks L c n (squash ks X.acc L (forget ks σ)) Q
 | e, σ => Q e (forget ks σ)
variable {X : Cx} {c : Code} {σ : St} {Q : Post}
theorem Wp.skip (hc : c = .skip) (h : Q .normal σ) : Wp X c σ Q := by subst hc; exact ⟨_, _, rfl, h⟩
theorem Wp.ret (hc : c = .ret) (h : Q .ret σ) : Wp X c σ Q := by subst hc; exact ⟨_, _, rfl, h⟩
variable {id : Nat}
theorem Wp.exit (hc : c = .exit id) (h : Q (.exit id) σ) : Wp X c σ Q := by subst hc; exact ⟨_, _, rfl, h⟩
theorem Wp.region (hc : regionOk X.E c = true) (h : Ops X (opl c) 0 σ (Q .normal)) : Wp X c σ Q := by
 cases c <;> simp only [regionOk] at hc <;> first | (cases hc; done) | skip
 obtain ⟨σ', h1, h2⟩ := h
 refine ⟨.normal, σ', ?_, h2⟩
 simp only [opl, List.drop_zero] at h1
 simp only [aeval, h1]
 rw [if_neg (by
  intro h
  rw [Bool.and_eq_true, Bool.and_eq_true, Bool.and_eq_true] at h
  obtain ⟨h1, h2, h3, _⟩ := h
  rw [h1, h2, h3] at hc; cases hc)]
def regionFar (E : Env) (σ : St) : Code → Bool
 | .region _ ops draw => !draw || farOk E ops σ
 | _ => false
theorem Wp.regionF (hc : regionFar X.E σ c = true) (h : Ops X (opl c) 0 σ (Q .normal)) : Wp X c σ Q := by
 cases c <;> simp only [regionFar] at hc <;> first | (cases hc; done) | skip
 obtain ⟨σ', h1, h2⟩ := h
 refine ⟨.normal, σ', ?_, h2⟩
 simp only [opl, List.drop_zero] at h1
 simp only [aeval, h1]
 rw [if_neg (by
  intro h
  rw [Bool.and_eq_true, Bool.and_eq_true, Bool.and_eq_true] at h
  obtain ⟨h1, _, _, h4⟩ := h
  rw [Bool.not_eq_true'] at h4
  rw [h1, h4] at hc; cases hc)]
theorem Wp.seq (a b : Code) (hc : c = .seq a b) (h : Wp X a σ (seqQ X b Q)) : Wp X c σ Q := by
 subst hc
 obtain ⟨e, σ1, h1, h2⟩ := h
 cases e with
 | normal =>
  obtain ⟨e, σ2, h3, h4⟩ := h2
  exact ⟨e, σ2, by simp only [aeval, h1, h3], h4⟩
 | exit id => exact ⟨_, σ1, by simp only [aeval, h1], h2⟩
 | ret => exact ⟨_, σ1, by simp only [aeval, h1], h2⟩
theorem Wp.cond (x : Bool) (ks : List Nat) (hk : X.keep.cond (okey (condOp c)) = ks) (L : Nat) (hL : σ.heap.length = L) (a b : Code) (hc : c = .cond (condOp c) a b) (hv : σ.ev (condOp c) = .v (.bool x)) (h1 : x = true → Wp X a σ (sqQ X ks L Q)) (h2 : x = false → Wp X b σ (sqQ X ks L Q)) : Wp X c σ Q := by
 subst hL
 subst hk
 obtain ⟨oc, hoc⟩ : ∃ oc, oc = condOp c := ⟨_, rfl⟩
 rw [← hoc] at hc hv h1 h2
 subst hc
 cases x with
 | true =>
  obtain ⟨e, σ1, h3, h4⟩ := h1 rfl
  cases e with
  | normal => exact ⟨.normal, _, by simp only [aeval, hv, if_true, h3], h4⟩
  | exit id => exact ⟨.exit id, _, by simp only [aeval, hv, if_true, h3], h4⟩
  | ret => exact ⟨.ret, _, by simp only [aeval, hv, if_true, h3], h4⟩
 | false =>
  obtain ⟨e, σ1, h3, h4⟩ := h2 rfl
  cases e with
  | normal => exact ⟨.normal, _, by simp only [aeval, hv, Bool.false_eq_true, if_false, h3], h4⟩
  | exit id => exact ⟨.exit id, _, by simp only [aeval, hv, Bool.false_eq_true, if_false, h3], h4⟩
  | ret => exact ⟨.ret, _, by simp only [aeval, hv, Bool.false_eq_true, if_false, h3], h4⟩
theorem Wp.block (ks : List Nat) (hk : X.keep.blk id = ks) (L : Nat) (hL : σ.heap.length = L) (a : Code) (hc : c = .block id a) (h : Wp X a σ (blkQ X id ks L Q)) : Wp X c σ Q := by
 subst hL
 subst hk
 subst hc
 obtain ⟨e, σ1, h1, h2⟩ := h
 cases e with
 | normal => exact ⟨.normal, _, by simp only [aeval, h1], h2⟩
 | exit id' =>
  simp only [blkQ] at h2
  by_cases hid : id' = id
  ·rw [if_pos hid] at h2; exact ⟨.normal, _, by simp only [aeval, h1, hid, if_true], h2⟩
  ·rw [if_neg hid] at h2; exact ⟨.exit id', _, by simp only [aeval, h1, hid, if_false], h2⟩
 | ret => exact ⟨.ret, _, by simp only [aeval, h1], h2⟩
theorem Wp.loop (ks : List Nat) (L : Nat) (hL : σ.heap.length = L) (a : Code) (hc : c = .loop a) (hk : X.keep.loop (ckey a) = ks) (σ1 : St) (hσ : squash ks X.acc L (forget ks σ) = σ1) (h : Lp X ks L a X.n σ1 Q) : Wp X c σ Q := by
 subst hL
 subst hk
 subst hc
 subst hσ
 obtain ⟨e, σ2, h1, h2⟩ := h
 exact ⟨e, σ2, h1, h2⟩
variable {L : Nat} {ks : List Nat}
theorem Lp.succ {n : Nat} (h : Wp X c σ (lpQ X ks L c n Q)) : Lp X ks L c (n + 1) σ Q := by
 obtain ⟨e, σ1, h1, h2⟩ := h
 cases e with
 | normal =>
  obtain ⟨e, σ2, h3, h4⟩ := h2
  exact ⟨e, σ2, by simp only [aloop, h1, h3], h4⟩
 | exit id => exact ⟨_, _, by simp only [aloop, h1], h2⟩
 | ret => exact ⟨_, _, by simp only [aloop, h1], h2⟩
variable {b : Code}
theorem seqQ.n (h : Wp X b σ Q) : seqQ X b Q .normal σ := h
theorem seqQ.x (h : Q (.exit id) σ) : seqQ X b Q (.exit id) σ := h
theorem seqQ.r (h : Q .ret σ) : seqQ X b Q .ret σ := h
theorem sqQ.n (σ1 : St) (e : squash ks X.acc L σ = σ1) (h : Q .normal σ1) : sqQ X ks L Q .normal σ := by subst e; exact h
theorem sqQ.x (h : Q (.exit id) σ) : sqQ X ks L Q (.exit id) σ := h
theorem sqQ.r (h : Q .ret σ) : sqQ X ks L Q .ret σ := h
theorem blkQ.n (σ1 : St) (e : squash ks X.acc L σ = σ1) (h : Q .normal σ1) : blkQ X id ks L Q .normal σ := by subst e; exact h
theorem blkQ.x (σ1 : St) (e : squash ks X.acc L σ = σ1) (h : Q .normal σ1) : blkQ X id ks L Q (.exit id) σ := by subst e; simp only [blkQ, if_true]; exact h
theorem blkQ.y {id' : Nat} (hne : (id' == id) = false) (h : Q (.exit id') σ) : blkQ X id ks L Q (.exit id') σ := by simp only [blkQ, if_neg (by simpa using hne)]; exact h
theorem blkQ.r (h : Q .ret σ) : blkQ X id ks L Q .ret σ := h
theorem lpQ.n {n : Nat} (σ1 : St) (e : squash ks X.acc L (forget ks σ) = σ1) (h : Lp X ks L c n σ1 Q) : lpQ X ks L c n Q .normal σ := by subst e; exact h
theorem lpQ.x {n : Nat} (h : Q (.exit id) (forget ks σ)) : lpQ X ks L c n Q (.exit id) σ := h
theorem lpQ.r {n : Nat} (h : Q .ret (forget ks σ)) : lpQ X ks L c n Q .ret σ := h
def cL : Code → Code
 | .seq a _ => a
 | .cond _ a _ => a
 | .block _ a => a
 | .loop a => a
 | _ => .skip
def cR : Code → Code
 | .seq _ b => b
 | .cond _ _ b => b
 | _ => .skip
def isSeq : Code → Bool
 | .seq _ _ => true
 | _ => false
def isCond : Code → Bool
 | .cond _ _ _ => true
 | _ => false
def isLoop : Code → Bool
 | .loop _ => true
 | _ => false
def blockId : Code → Option Nat
 | .block id _ => some id
 | _ => none
theorem Wp.seq' (hc : isSeq c = true) (h : Wp X (cL c) σ (seqQ X (cR c) Q)) : Wp X c σ Q := by
 cases c <;> first | (cases hc; done) | exact Wp.seq _ _ rfl h
theorem Wp.condT (ks : List Nat) (L : Nat) (e : (X.keep.cond (okey (condOp c)), σ.heap.length, isCond c, σ.ev (condOp c)) = (ks, L, true, D.v (.bool true))) (h : Wp X (cL c) σ (sqQ X ks L Q)) : Wp X c σ Q := by
 simp only [Prod.mk.injEq] at e
 cases c <;> first | (cases e.2.2.1; done) | exact Wp.cond true ks e.1 L e.2.1 _ _ rfl e.2.2.2 (fun _ => h) (fun e => nomatch e)
theorem Wp.condF (ks : List Nat) (L : Nat) (e : (X.keep.cond (okey (condOp c)), σ.heap.length, isCond c, σ.ev (condOp c)) = (ks, L, true, D.v (.bool false))) (h : Wp X (cR c) σ (sqQ X ks L Q)) : Wp X c σ Q := by
 simp only [Prod.mk.injEq] at e
 cases c <;> first | (cases e.2.2.1; done) | exact Wp.cond false ks e.1 L e.2.1 _ _ rfl e.2.2.2 (fun e => nomatch e) (fun _ => h)
theorem Wp.block' (id : Nat) (ks : List Nat) (L : Nat) (e : (X.keep.blk id, σ.heap.length, blockId c) = (ks, L, some id)) (h : Wp X (cL c) σ (blkQ X id ks L Q)) : Wp X c σ Q := by
 simp only [Prod.mk.injEq] at e
 cases c <;> first | (cases e.2.2; done) | skip
 obtain ⟨e1, e2, e3⟩ := e
 cases e3
 exact Wp.block ks e1 L e2 _ rfl h
theorem Wp.loop' (ks : List Nat) (L : Nat) (e : (X.keep.loop (ckey (cL c)), σ.heap.length, isLoop c) = (ks, L, true)) (σ1 : St) (hσ : squash ks X.acc L (forget ks σ) = σ1) (h : Lp X ks L (cL c) X.n σ1 Q) : Wp X c σ Q := by
 simp only [Prod.mk.injEq] at e
 cases c <;> first | (cases e.2.2; done) | exact Wp.loop ks L e.2.1 _ rfl e.1 σ1 hσ h
theorem sqQ.n' (h : Q .normal (squash ks X.acc L σ)) : sqQ X ks L Q .normal σ := h
theorem blkQ.n' (h : Q .normal (squash ks X.acc L σ)) : blkQ X id ks L Q .normal σ := h
theorem blkQ.x' (h : Q .normal (squash ks X.acc L σ)) : blkQ X id ks L Q (.exit id) σ := by simp only [blkQ, if_true]; exact h
def aseg (X : Cx) (ops : List Oper) : Nat → Nat → St → Option St
 | 0, _, σ => some σ
 | k + 1, i, σ => match ops[i]? with
  | some o => match aop X.E X.Γ ops o σ with
   | some σ' => aseg X ops k (i + 1) σ'
   | none => none
  | none => none
variable {i : Nat} {ops : List Oper}
theorem Ops.done {Q : St → Prop} (hi : ops.drop i = []) (h : Q σ) : Ops X ops i σ Q := ⟨σ, by rw [hi]; rfl, h⟩
theorem Ops.seg {ops : List Oper} {Q : St → Prop} : ∀ (k : Nat) {i : Nat} {σ : St} (j : Nat) (hj : i + k = j) (σ1 : St) (h1 : aseg X ops k i σ = some σ1) (h : Ops X ops j σ1 Q), Ops X ops i σ Q
 | 0, i, σ, j, hj, σ1, h1, h => by
  simp only [aseg, Option.some.injEq] at h1
  subst h1
  simp only [Nat.add_zero] at hj
  subst hj
  exact h
 | k + 1, i, σ, j, hj, σ1, h1, h => by
  simp only [aseg] at h1
  split at h1
  ·rename_i o ho
   split at h1
   ·rename_i σ2 h2
    obtain ⟨σ3, h3, h4⟩ := Ops.seg k j om σ1 h1 h
    have hlt : i < ops.length := by
     rcases Nat.lt_or_ge i ops.length with h | h
     ·exact h
     ·rw [zS h] at ho; cases ho
    have hd : ops.drop i = o :: ops.drop (i + 1) := by
     rw [zI hlt]
     rw [zA hlt] at ho
     rw [zC ho]
    exact ⟨σ3, by rw [hd]; simp only [aops, h2, h3], h4⟩
   ·cases h1
  ·cases h1
def effAt (X : Cx) (ops : List Oper) (i : Nat) (σ : St) : Option (D × List AObj) := match ops[i]? with
 | some o => aeff X.E X.Γ ops o σ
 | none => none
def putAt (ops : List Oper) (i : Nat) (σ : St) (d : D) (h : List AObj) : St := match ops[i]? with
 | some o => σ.put o.dst d h
 | none => σ
theorem Ops.one {Q : St → Prop} (j : Nat) (hj : i + 1 = j) (r : Option (D × List AObj)) (d : D) (h' : List AObj) (σ1 : St) (h1 : effAt X ops i σ = r) (h2 : r = some (d, h')) (h3 : putAt ops i σ d h' = σ1) (h : Ops X ops j σ1 Q) : Ops X ops i σ Q := by
 subst h1
 refine Ops.seg 1 j hj σ1 ?_ h
 unfold effAt at h2
 unfold putAt at h3
 simp only [aseg]
 split at h2
 ·rename_i o ho
  simp only [ho] at h3 ⊢
  simp only [aop, h2, h3]
 ·cases h2
def asegD (X : Cx) (ops : List Oper) (k i : Nat) (σ : St) : St := (aseg X ops k i σ).getD σ
theorem Ops.seg' {Q : St → Prop} (k j : Nat) (e : (i + k == j && (aseg X ops k i σ).isSome) = true) (h : Ops X ops j (asegD X ops k i σ) Q) : Ops X ops i σ Q := by
 simp only [Bool.and_eq_true, beq_iff_eq] at e
 obtain ⟨σ1, h1⟩ := Option.isSome_iff_exists.1 e.2
 refine Ops.seg k j e.1 σ1 h1 ?_
 unfold asegD at h
 rw [h1] at h
 exact h
variable {h' : List AObj → List AObj}
theorem Ops.one' {Q : St → Prop} {r : List AObj → Option (D × List AObj)} {d : List AObj → D} (j : Nat) (H : ∀ h, h = σ.heap → r h = some (d h, h' h)) (hj : (i + 1 == j) = true) (h1 : effAt X ops i σ = r σ.heap)
  (h : Ops X ops j (putAt ops i σ (d σ.heap) (h' σ.heap)) Q) : Ops X ops i σ Q :=
 Ops.one j (by simpa using hj) _ _ _ _ h1 (H _ rfl) rfl h
theorem Ops.st {Q : St → Prop} (σ1 : St) (e : σ = σ1) (h : Ops X ops i σ1 Q) : Ops X ops i σ Q := by rw [e]; exact h
theorem Wp.sq (h : Wp X (cL c) σ (seqQ X (cR c) Q)) (hc : isSeq c = true := by kernel_rfl) : Wp X c σ Q := Wp.seq' hc h
theorem Wp.rg (h : Ops X (opl c) 0 σ (Q .normal)) (hc : regionOk X.E c = true := by kernel_rfl) : Wp X c σ Q := Wp.region hc h
theorem Wp.sk (h : Q .normal σ) (hc : c = .skip := by kernel_rfl) : Wp X c σ Q := Wp.skip hc h
theorem Ops.dn {Q : St → Prop} (h : Q σ) (hi : ops.drop i = [] := by kernel_rfl) : Ops X ops i σ Q := Ops.done hi h
theorem Ops.sg {Q : St → Prop} (k j : Nat) (h : Ops X ops j (asegD X ops k i σ) Q) (e : (i + k == j && (aseg X ops k i σ).isSome) = true := by kernel_rfl) : Ops X ops i σ Q := Ops.seg' k j e h
theorem Ops.on {Q : St → Prop} {r : List AObj → Option (D × List AObj)} {d : List AObj → D} (j : Nat) (H : ∀ h, h = σ.heap → r h = some (d h, h' h))
  (h : Ops X ops j (putAt ops i σ (d σ.heap) (h' σ.heap)) Q) (hj : (i + 1 == j) = true := by kernel_rfl) (h1 : effAt X ops i σ = r σ.heap := by kernel_rfl) : Ops X ops i σ Q := Ops.one' j H hj h1 h
variable {h : List AObj} {q : Nat}
theorem hq_of {g : List AObj} {o : AObj} (e : h = g) (hq : g[q]? = some o) : h[q]? = some o := by rw [e]; exact hq
def cnd {α : Type} (b : Bool) (x y : Option α) : Option α := match b with
 | true => x
 | false => y
variable {α : Type}
theorem Wp.cnd {b : Bool} {x y : Option α} {r : α} (h : cnd b x y = some r) (ks : List Nat) (L : Nat) (e : (X.keep.cond (okey (condOp c)), σ.heap.length, isCond c, σ.ev (condOp c)) = (ks, L, true, D.v (.bool b)))
  (h1 : x = some r → Wp X (cL c) σ (sqQ X ks L Q)) (h2 : y = some r → Wp X (cR c) σ (sqQ X ks L Q)) : Wp X c σ Q := by
 cases b with
 | true => exact Wp.condT ks L e (h1 h)
 | false => exact Wp.condF ks L e (h2 h)
def bnd {α β : Type} (x : Option α) (f : α → Option β) : Option β := match x with
 | some a => f a
 | none => none
theorem bnd_some {β : Type} {x : Option α} {f : α → Option β} {r : β} (h : bnd x f = some r) : ∃ a, x = some a ∧ f a = some r := by
 cases x with
 | none => cases h
 | some a => exact ⟨a, rfl, h⟩
def idx {α : Type} (l : List α) (i : Int) : Option α := if 0 ≤ i then l[i.toNat]? else none
def sub {α : Type} (l : List α) (lo hi : Int) : Option (List α) := if 0 ≤ lo ∧ lo ≤ hi ∧ hi ≤ l.length then some ((l.drop lo.toNat).take (hi.toNat - lo.toNat)) else none
def appF (g : SFlag) (t : Nat) (xs : List V) : D := match xs with
 | [] => .v (.sl g [])
 | _ :: _ => .tsl t xs
abbrev appD (t : Nat) (xs : List V) : D := appF .nil t xs
def appO (k : Nat) (xs : List V) : AObj := match xs with
 | [] => .dead
 | _ :: _ => .tok k xs.length
variable {e t : Nat} {fl : SFlag}
theorem len_ok {T : Nat → Option TI} {f : α → V} {xs : List α} (hT : (T t).map (·.kind) = some (.slice e)) : lenD T t (.v (.sl fl (xs.map f))) = some (.v (.int .i64 (xs.length : Int))) := by
 obtain ⟨ti, h1, h2⟩ := zB.1 hT
 simp only [lenD, h1, h2, List.length_map]
variable {k : Nat}
theorem ix_ok {T : Nat → Option TI} {f : α → V} {xs : List α} {i : Int} {x : α} (hT : (T t).map (·.kind) = some (.slice e)) (hk : sizeT T e = some k) (hf : ∀ x, (f x).cells.length = k) (hx : idx xs i = some x) :
  indexAddrH T h t (.v (.sl fl (xs.map f))) (.v (.int .i64 i)) = some (.vptr (f x).cells) := by
 obtain ⟨ti, h1, h2⟩ := zB.1 hT
 unfold idx at hx
 split at hx
 ·rename_i h0
  simp only [indexAddrH, indexAddrD, h1, h2, natOf, if_pos h0, hk, zG, hx, Option.map_some, hf, beq_self_eq_true, if_true]
 ·cases hx
theorem headOk_map {f : α → V} (hf : ∀ x, (f x).cells.length = k) (xs : List α) : headOk k (xs.map f) = true := by
 cases xs with
 | nil => rfl
 | cons x r => simp [headOk, hf]
variable {g : SFlag}
theorem app_ok {T : Nat → Option TI} {i : TI} (hg : g.isFull = true) {f : α → V} {xs ys : List α} (hT : (T t).map (·.kind) = some (.slice e)) (hi : T e = some i) (hk : (i.size == 0) = false) (hz : (i.zero.cells.length == i.size) = true) (hf : ∀ x, (f x).cells.length = i.size)
  (hq : h[q]? = some (appO i.size (xs.map f))) (hb : (xs.length + ys.length) * i.bytes ≤ 140737488355328) (hm : xs.length + ys.length ≤ maxLen) :
  appendD T false t h (appF g q (xs.map f)) (.v (.sl fl (ys.map f))) = some (appF g h.length ((xs ++ ys).map f), h.set q .dead ++ [appO i.size ((xs ++ ys).map f)]) := by
 obtain ⟨ti, h1, h2⟩ := zB.1 hT
 have hk' : ¬ (i.size = 0 ∨ i.zero.cells.length ≠ i.size) := by
  rintro (h | h)
  ·simp [h] at hk
  ·exact h (by simpa using hz)
 have hlt : q < h.length := by
  rcases Nat.lt_or_ge q h.length with h' | h'
  ·exact h'
  ·rw [zS h'] at hq; cases hq
 have hdead : h[q]? = some .dead → h.set q .dead = h := by
  intro hh
  refine List.ext_getElem? fun j => ?_
  rw [zR]
  split
  ·rename_i e; subst e; exact hh.symm
  ·rfl
 have hel : elemsOf i.size h (D.unt (.v (.sl fl (ys.map f)))) = some (ys.map f) := by simp only [D.unt, elemsOf, headOk_map hf, if_true]
 simp only [appendD, h1, h2, hi, if_neg hk', hel]
 cases xs with
 | nil =>
  simp only [List.map_nil, appF, appO] at hq ⊢
  cases ys with
  | nil => simp only [List.map_nil, List.append_nil, hdead hq, Bool.false_eq_true, if_false]
  | cons y yr =>
   simp only [List.map_cons, List.nil_append, List.length_nil, List.length_cons, List.length_map] at hb hm ⊢
   rw [Nat.zero_add] at hb hm
   simp [hg, headOk, hdead hq, hb, hm]
 | cons x xr =>
  simp only [List.map_cons, appF, appO] at hq ⊢
  simp only [hq]
  rw [if_pos ⟨trivial, trivial, by simpa using hb, by simpa using hm⟩]
  simp [Nat.add_right_comm]
def app {α : Type} (b : Nat) (xs ys : List α) : Option (List α) := if (xs.length + ys.length) * b ≤ 140737488355328 ∧ xs.length + ys.length ≤ maxLen then some (xs ++ ys) else none
theorem app_r {T : Nat → Option TI} (h : List AObj) (t e q k : Nat) (i : TI) (fl : SFlag) (f : α → V) (xs ys zs : List α) (ha : app i.bytes xs ys = some zs) (hT : (T t).map (·.kind) = some (.slice e)) (hi : T e = some i) (hk : (i.size == 0) = false) (hz : (i.zero.cells.length == i.size) = true)
  (hf : ∀ x, (f x).cells.length = i.size) (hq : h[q]? = some (appO i.size (xs.map f))) (hg : g.isFull = true := by rfl) : appendD T false t h (appF g q (xs.map f)) (.v (.sl fl (ys.map f))) = some (appF g h.length (zs.map f), h.set q .dead ++ [appO i.size (zs.map f)]) := by
 unfold app at ha
 split at ha
 ·rename_i hb
  cases ha
  exact app_ok hg hT hi hk hz hf hq hb.1 hb.2
 ·cases ha
theorem len_r {T : Nat → Option TI} (h : List AObj) (t e : Nat) (fl : SFlag) (f : α → V) (xs : List α) (hT : (T t).map (·.kind) = some (.slice e)) : (lenD T t (D.unt (.v (.sl fl (xs.map f))))).map (·, h) = some (.v (.int .i64 (xs.length : Int)), h) := by
 simp only [D.unt, len_ok hT, Option.map_some]
theorem ix_r {T : Nat → Option TI} (h : List AObj) (t e k : Nat) (fl : SFlag) (f : α → V) (xs : List α) (i : Int) (x : α) (hx : idx xs i = some x) (hT : (T t).map (·.kind) = some (.slice e)) (hk : sizeT T e = some k) (hf : ∀ x, (f x).cells.length = k) :
  (indexAddrH T h t (D.unt (.v (.sl fl (xs.map f)))) (.v (.int .i64 i))).map (·, h) = some (.vptr (f x).cells, h) := by
 simp only [D.unt, ix_ok hT hk hf hx, Option.map_some]
inductive FF where
 | nil | full | nonfull
def FF.flag : FF → SFlag
 | .nil => .nil
 | .full => .full
 | .nonfull => .nonfull
inductive AG where
 | tok
 | fl (f : FF)
def AG.d (g : AG) (q : Nat) (xs : List V) : D := match g with
 | .tok => .tsl q xs
 | .fl f => .v (.sl f.flag xs)
def AG.o (g : AG) (k : Nat) (xs : List V) : AObj := match g with
 | .tok => .tok k xs.length
 | _ => .dead
def AG.app (g : AG) (ys : List V) : AG := match ys with
 | [] => g
 | _ :: _ => .tok
def dfl (d : D) : SFlag := match d.unt with
 | .v (.sl fl _) => fl
 | _ => .plain
theorem AG.hd (g : AG) (q : Nat) (xs : List V) : (AG.d g q xs).unt = .v (.sl (dfl (AG.d g q xs)) xs) := by cases g <;> rfl
theorem appF_hd (g : SFlag) (q : Nat) (xs : List V) : (appF g q xs).unt = .v (.sl (dfl (appF g q xs)) xs) := by cases xs <;> rfl
theorem app_g {T : Nat → Option TI} (h : List AObj) (t e q k : Nat) (i : TI) (g : AG) (fl : SFlag) (f : α → V) (xs ys zs : List α) (ha : app i.bytes xs ys = some zs) (hT : (T t).map (·.kind) = some (.slice e)) (hi : T e = some i) (hk : (i.size == 0) = false) (hz : (i.zero.cells.length == i.size) = true)
  (hf : ∀ x, (f x).cells.length = i.size) (hq : h[q]? = some (AG.o g i.size (xs.map f))) : appendD T false t h (AG.d g q (xs.map f)) (.v (.sl fl (ys.map f))) = some (AG.d (g.app (ys.map f)) h.length (zs.map f), h.set q .dead ++ [AG.o (g.app (ys.map f)) i.size (zs.map f)]) := by
 unfold app at ha
 split at ha
 ·rename_i hb
  cases ha
  obtain ⟨hb, hm⟩ := hb
  obtain ⟨ti, h1, h2⟩ := zB.1 hT
  have hk' : ¬ (i.size = 0 ∨ i.zero.cells.length ≠ i.size) := by
   rintro (h | h)
   ·simp [h] at hk
   ·exact h (by simpa using hz)
  have hlt : q < h.length := by
   rcases Nat.lt_or_ge q h.length with h' | h'
   ·exact h'
   ·rw [zS h'] at hq; cases hq
  have hdead : h[q]? = some .dead → h.set q .dead = h := by
   intro hh
   refine List.ext_getElem? fun j => ?_
   rw [zR]
   split
   ·rename_i e; subst e; exact hh.symm
   ·rfl
  have hel : elemsOf i.size h (D.unt (.v (.sl fl (ys.map f)))) = some (ys.map f) := by simp only [D.unt, elemsOf, headOk_map hf, if_true]
  simp only [appendD, h1, h2, hi, if_neg hk', hel]
  have full : ∀ sf : SFlag, sf.isFull = true → h[q]? = some .dead → ∀ (g : AG), AG.d g h.length ((xs ++ []).map f) = .v (.sl sf (xs.map f)) → AG.o g i.size ((xs ++ []).map f) = .dead →
    (match (D.v (.sl sf (xs.map f))) with
     | .tsl q es => match h[q]? with
      | some (.tok k n) => if k = i.size ∧ n = es.length ∧ (es.length + (ys.map f).length) * i.bytes ≤ 140737488355328 ∧ es.length + (ys.map f).length ≤ maxLen then
        some (D.tsl h.length (es ++ ys.map f), h.set q .dead ++ [AObj.tok k (es.length + (ys.map f).length)]) else none
      | _ => none
     | .v (.sl fl es) => match ys.map f with
      | [] => some (.v (.sl fl es), if false = true then h else h ++ [.dead])
      | _ :: _ => if fl.isFull && headOk i.size es && decide ((es.length + (ys.map f).length) * i.bytes ≤ 140737488355328) && decide (es.length + (ys.map f).length ≤ maxLen) then
        (if false = true then some (.osl h.length 0 (es.length + (ys.map f).length) false, h ++ [.row i.size (es ++ ys.map f)]) else some (.tsl h.length (es ++ ys.map f), h ++ [.tok i.size (es.length + (ys.map f).length)])) else none
     | _ => none) = some (AG.d (g.app (ys.map f)) h.length ((xs ++ ys).map f), h.set q .dead ++ [AG.o (g.app (ys.map f)) i.size ((xs ++ ys).map f)]) := by
   intro sf hsf hqd g e1 e2
   rw [hdead hqd]
   cases ys with
   | nil =>
    simp only [List.map_nil, AG.app, e1, e2]
    rfl
   | cons y yr =>
    simp only [List.length_cons] at hb hm
    simp [hsf, headOk_map hf, hb, hm, AG.app, AG.d, AG.o]
  cases g with
  | tok =>
   simp only [AG.d, AG.o] at hq ⊢
   simp only [hq]
   rw [if_pos ⟨trivial, trivial, by simpa using hb, by simpa using hm⟩]
   have : (AG.tok).app (ys.map f) = .tok := by cases ys <;> rfl
   rw [this, List.map_append, ← List.length_append]
  | fl f => exact full f.flag (by cases f <;> rfl) hq (.fl f) (by simp [AG.d]) rfl
 ·cases ha
theorem len_g {T : Nat → Option TI} (h : List AObj) (t e q : Nat) (g : AG) (f : α → V) (xs : List α) (hT : (T t).map (·.kind) = some (.slice e)) : (lenD T t (D.unt (AG.d g q (xs.map f)))).map (·, h) = some (.v (.int .i64 (xs.length : Int)), h) := by
 rw [AG.hd]
 simp only [len_ok hT, Option.map_some]
theorem ix_g {T : Nat → Option TI} (h : List AObj) (t e k q : Nat) (g : AG) (f : α → V) (xs : List α) (i : Int) (x : α) (hx : idx xs i = some x) (hT : (T t).map (·.kind) = some (.slice e)) (hk : sizeT T e = some k) (hf : ∀ x, (f x).cells.length = k) :
  (indexAddrH T h t (D.unt (AG.d g q (xs.map f))) (.v (.int .i64 i))).map (·, h) = some (.vptr (f x).cells, h) := by
 rw [AG.hd]
 simp only [ix_ok hT hk hf hx, Option.map_some]
inductive AR where
 | ag (g : AG)
 | fl (f : SFlag)
def AR.d (g : AR) (q : Nat) (xs : List V) : D := match g with
 | .ag g => AG.d g q xs
 | .fl f => .v (.sl f xs)
inductive Stp (R A : Type) where
 | ret (r : R)
 | brk (a : A)
 | nxt (a : A)
def iter {R A : Type} (b : A → Option (Stp R A)) : Nat → A → Option (R ⊕ A)
 | 0, _ => none
 | k + 1, a => match b a with
  | some (.nxt a') => iter b k a'
  | some (.brk a') => some (.inr a')
  | some (.ret r) => some (.inl r)
  | none => none
def stpOk {R A : Type} (b : A → Option (Stp R A)) (k : Nat) (o : R ⊕ A) : Stp R A → Prop
 | .nxt a' => iter b k a' = some o
 | .brk a' => o = .inr a'
 | .ret r => o = .inl r
variable {A R : Type}
theorem iter_some {b : A → Option (Stp R A)} {a : A} {o : R ⊕ A} (h : iter b (k + 1) a = some o) : ∃ s, b a = some s ∧ stpOk b k o s := by
 unfold iter at h
 split at h
 ·rename_i a' h1; exact ⟨_, h1, h⟩
 ·rename_i a' h1; exact ⟨_, h1, (zC h).symm⟩
 ·rename_i r h1; exact ⟨_, h1, (zC h).symm⟩
 ·cases h
theorem iter_zero {b : A → Option (Stp R A)} {a : A} {o : R ⊕ A} (h : iter b 0 a = some o) : False := by cases h
theorem cnd_t {x y : Option α} {r : α} (h : cnd true x y = some r) : x = some r := h
theorem cnd_f {x y : Option α} {r : α} (h : cnd false x y = some r) : y = some r := h
def brk {R A B : Type} (x : Option (R ⊕ A)) (f : R → Option B) (g : A → Option B) : Option B := match x with
 | some (.inl r) => f r
 | some (.inr a) => g a
 | none => none
theorem brk_some {B : Type} {x : Option (R ⊕ A)} {f : R → Option B} {g : A → Option B} {o : B} (h : brk x f g = some o) : (∃ r, x = some (.inl r) ∧ f r = some o) ∨ (∃ a, x = some (.inr a) ∧ g a = some o) := by
 cases x with
 | none => cases h
 | some y =>
  cases y with
  | inl r => exact .inl ⟨r, rfl, h⟩
  | inr a => exact .inr ⟨a, rfl, h⟩
def w64 (n : Int) : Int := IntKind.i64.wrap n
def eI : Int → V := fun n => .int .i64 n
def eK (k : IntKind) : Int → V := fun n => .int k n
def eB : Bool → V := fun b => .bool b
def eS : ByteArray → V := fun s => .str s
def eL {α : Type} (f : α → V) : List α → V := fun l => .sl .plain (List.map f l)
def resOf (P : Program) (f : Nat) : List ResultVar := match P.funcs[f]? with
 | some fn => fn.results.toList
 | none => []
def startOf (P : Program) (f : Nat) (ds : List D) : St := match P.funcs[f]? with
 | some fn => ⟨ds ++ List.replicate (fn.ntmps - ds.length) U, []⟩
 | none => ⟨[], []⟩
def hasBody (P : Program) (f : Nat) : Bool := match P.funcs[f]? with
 | some fn => fn.body.isSome
 | none => false
def cxOf (P : Program) (E : Env) (f n : Nat) : Cx := ⟨{ E with rowM := E.rowF f, untS := E.untF f }, run P E n, E.keep f, E.acc f, n⟩
def Fn (P : Program) (E : Env) (n f : Nat) (xs : List D) (r : V) : Prop := ∃ d h', run P E n f xs [] = some (d, h') ∧ frz h' 6 d = some r
def RetOk0 (T : Nat → Option TI) (rs : List ResultVar) (r : V) (σ : St) : Prop := ∃ d, resultsD T σ rs = some d ∧ frz σ.heap 6 d = some r
def RetOk (X : Cx) (rs : List ResultVar) (r : V) (σ : St) : Prop := RetOk0 X.E.T rs r σ
def fnQ (T : Nat → Option TI) (rs : List ResultVar) (r : V) : Post := fun e σ => (e = .normal ∨ e = .ret) ∧ RetOk0 T rs r σ
def resIn (ks : List Nat) (rs : List ResultVar) : Bool := rs.all fun
 | .tmp t => ks.contains t
 | .cell a _ => ks.contains a
def V.isTuple : V → Bool
 | .tuple _ => true
 | _ => false
inductive TupOk (h : List AObj) : List D → List V → Prop where
 | nil : TupOk h [] []
 | v (x y : V) {ds : List D} {rs : List V} (e : plainT x = y) (ht : x.isTuple = false) (hr : TupOk h ds rs) : TupOk h (.v x :: ds) (y :: rs)
 | d (d : D) (r : V) {ds : List D} {rs : List V} (e : Abs.frz h 5 d = some r) (ht : ∀ ws, d ≠ .v (.tuple ws)) (hr : TupOk h ds rs) : TupOk h (d :: ds) (r :: rs)
variable {ds : List D}
theorem TupOk.spec {rs : List V} (ht : TupOk h ds rs) : allM (Abs.frz h 5) ds = some rs ∧ ∀ vs, pures ds = some vs → vs.map plainV = rs := by
 induction ht with
 | nil => exact ⟨rfl, fun vs h => by cases h; rfl⟩
 | v x y e ht hr ih =>
  subst e
  refine ⟨by simp only [allM, Abs.frz, ih.1], fun vs hv => ?_⟩
  simp only [pures, D.pure?] at hv
  split at hv
  ·rename_i a b hab hb
   cases hab
   cases hv
   have : plainV x = plainT x := by cases x <;> first | rfl | cases ht
   rw [List.map_cons, ih.2 _ hb, this]
  ·cases hv
 | d d r e ht hr ih =>
  refine ⟨by simp only [allM, e, ih.1], fun vs hv => ?_⟩
  simp only [pures] at hv
  split at hv
  ·rename_i a b hab hb
   cases hv
   cases d with
   | v x =>
    have hx : x = a := by simpa [D.pure?] using hab
    subst hx
    simp only [Abs.frz, Option.some.injEq] at e
    have : plainV x = plainT x := by cases x <;> first | rfl | exact (ht _ rfl).elim
    rw [List.map_cons, ih.2 _ hb, this, e]
   | _ => cases hab
  ·cases hv
theorem forget_getD (ks : List Nat) (σ : St) (h : ks.contains t = true) : (Abs.forget ks σ).tmps.getD t .undef = σ.tmps.getD t .undef := by
 simp only [Abs.forget, List.getD_eq_getElem?_getD, List.getElem?_mapIdx, h, if_true]
 cases σ.tmps[t]? <;> rfl
theorem resultD_forget (T : Nat → Option TI) (ks : List Nat) (σ : St) : ∀ (rs : List ResultVar), resIn ks rs = true → allM (resultD T (Abs.forget ks σ)) rs = allM (resultD T σ) rs
 | [], _ => rfl
 | r :: rs, h => by
  simp only [resIn, List.all_cons, Bool.and_eq_true] at h
  have ih := resultD_forget T ks σ rs h.2
  have e : resultD T (Abs.forget ks σ) r = resultD T σ r := by
   cases r with
   | tmp t => simp only [resultD, forget_getD ks σ h.1]
   | cell a t => simp only [resultD, forget_getD ks σ h.1]; rfl
  simp only [allM, e, ih]
variable {rs : List ResultVar}
theorem RetOk.forget {X : Cx} {r : V} {σ : St} (ks : List Nat) (hk : resIn ks rs = true) (h : RetOk X rs r σ) : RetOk X rs r (Abs.forget ks σ) := by
 obtain ⟨d, h1, h2⟩ := h
 refine ⟨d, ?_, h2⟩
 unfold resultsD at h1 ⊢
 rw [resultD_forget _ ks σ rs hk]
 exact h1
theorem RetOk.mk' {X : Cx} {r : V} {σ : St} (d : D) (h1 : resultsD X.E.T σ rs = some d) (h3 : frz σ.heap 6 d = some r) : RetOk X rs r σ := ⟨d, h1, h3⟩
theorem fnQ.r {X : Cx} {r : V} {σ : St} (h : RetOk X rs r σ) : fnQ X.E.T rs r .ret σ := ⟨.inr rfl, h⟩
theorem fnQ.n {X : Cx} {r : V} {σ : St} (h : RetOk X rs r σ) : fnQ X.E.T rs r .normal σ := ⟨.inl rfl, h⟩
variable {a : α}
theorem fnQ.r' (X : Cx) {o : α} (enc : α → V) {σ : St} (e : some a = some o) (h : RetOk X rs (enc a) σ) : fnQ X.E.T rs (enc o) .ret σ := by cases e; exact fnQ.r h
theorem fnQ.n' (X : Cx) {o : α} (enc : α → V) {σ : St} (e : some a = some o) (h : RetOk X rs (enc a) σ) : fnQ X.E.T rs (enc o) .normal σ := by cases e; exact fnQ.n h
theorem some_sub (p : α → Prop) {r : α} (e : some a = some r) (h : p r) : p a := by cases e; exact h
variable {P : Program} {f : Nat} {xs : List D}
theorem Fn.of0 {E : Env} {n : Nat} {p : D → List AObj → Prop} (hora : E.ora f = none) (horaD : E.oraD f = none) (hb : hasBody P f = true) (σ0 : St) (hσ : startOf P f xs = σ0)
  (h : Wp (cxOf P E f n) (bodyOf P f) σ0 (fun e σ => (e = .normal ∨ e = .ret) ∧ ∃ d, resultsD E.T σ (resOf P f) = some d ∧ p d σ.heap)) : ∃ d h', run P E (n + 1) f xs [] = some (d, h') ∧ p d h' := by
 subst hσ
 obtain ⟨e, σ, h1, h2, d, h3, h4⟩ := h
 refine ⟨d, σ.heap, ?_, h4⟩
 unfold hasBody at hb
 unfold resOf at h3
 have h3 : resultsD E.T σ _ = some d := h3
 unfold startOf bodyOf cxOf at h1
 unfold run
 split at hb
 ·rename_i fn hfn
  obtain ⟨c, hc⟩ := Option.isSome_iff_exists.1 hb
  simp only [hfn, hc] at h1 h3
  simp only [hfn, hora, horaD, hc, h1]
  rcases h2 with rfl | rfl
  ·simp only [h3, Option.map_some]
  ·simp only [h3, Option.map_some]
 ·cases hb
theorem Fn.of {E : Env} {n : Nat} {r : V} (hora : E.ora f = none) (horaD : E.oraD f = none) (hb : hasBody P f = true) (σ0 : St) (hσ : startOf P f xs = σ0)
  (h : Wp (cxOf P E f n) (bodyOf P f) σ0 (fnQ (cxOf P E f n).E.T (resOf P f) r)) : Fn P E (n + 1) f xs r := Fn.of0 hora horaD hb σ0 hσ h
inductive Args (h : List AObj) : List D → List D → Prop where
 | nil : Args h [] []
 | v (x y : V) {ds xs : List D} (e : plainT x = y) (hr : Args h ds xs) : Args h (.v x :: ds) (.v y :: xs)
 | app {g : SFlag} (q : Nat) (es : List V) {ds xs : List D} (hr : Args h ds xs) : Args h (appF g q es :: ds) (.v (.sl .plain es) :: xs)
 | ag (g : AG) (q : Nat) (es : List V) {ds xs : List D} (hr : Args h ds xs) : Args h (AG.d g q es :: ds) (.v (.sl .plain es) :: xs)
 | ar (g : AR) (q : Nat) (es : List V) {ds xs : List D} (hr : Args h ds xs) : Args h (AR.d g q es :: ds) (.v (.sl .plain es) :: xs)
 | vp (cs : List V) {ds xs : List D} (hr : Args h ds xs) : Args h (.vptr cs :: ds) (.vptr cs :: xs)
inductive ArgsC (h : List AObj) : List D → List D → Prop where
 | nil : ArgsC h [] []
 | cons (d x : D) {ds xs : List D} (e : argP h d = some x) (hr : ArgsC h ds xs) : ArgsC h (d :: ds) (x :: xs)
theorem AG.frz (h : List AObj) (n q : Nat) (g : AG) (es : List V) : Abs.frz h (n + 1) (AG.d g q es) = some (.sl .plain es) := by cases g <;> rfl
theorem argP_app (h : List AObj) (q : Nat) (es : List V) : argP h (appF g q es) = some (.v (.sl .plain es)) := by cases es <;> rfl
theorem argP_ag (h : List AObj) (g : AG) (q : Nat) (es : List V) : argP h (AG.d g q es) = some (.v (.sl .plain es)) := by cases g <;> rfl
theorem argP_ar (h : List AObj) (g : AR) (q : Nat) (es : List V) : argP h (AR.d g q es) = some (.v (.sl .plain es)) := by
 cases g with
 | ag g => exact argP_ag h g q es
 | fl f => rfl
theorem Args.spec (ha : Args h ds xs) : allM (argP h) ds = some xs ∧ ds.all D.freed = true := by
 induction ha with
 | nil => exact ⟨rfl, rfl⟩
 | v x y e hr ih =>
  subst e
  exact ⟨by simp only [allM, argP, Abs.frz, Option.map_some, ih.1], by simp only [List.all_cons, D.freed, ih.2, Bool.and_self]⟩
 | @app g q es _ _ hr ih => exact ⟨by simp only [allM, argP_app, ih.1], by cases es <;> simp only [List.all_cons, appF, D.freed, ih.2, Bool.and_self]⟩
 | ag g q es hr ih => exact ⟨by simp only [allM, argP_ag, ih.1], by cases g <;> simp only [List.all_cons, AG.d, D.freed, ih.2, Bool.and_self]⟩
 | ar g q es hr ih =>
  refine ⟨by simp only [allM, argP_ar, ih.1], ?_⟩
  cases g with
  | ag g => cases g <;> simp only [List.all_cons, AR.d, AG.d, D.freed, ih.2, Bool.and_self]
  | fl f => simp only [List.all_cons, AR.d, D.freed, ih.2, Bool.and_self]
 | vp cs hr ih => exact ⟨by simp only [allM, argP, ih.1], by simp only [List.all_cons, D.freed, ih.2, Bool.and_self]⟩
theorem ArgsC.spec (ha : ArgsC h ds xs) : allM (argP h) ds = some xs := by
 induction ha with
 | nil => rfl
 | cons d x e hr ih => simp only [allM, e, ih]
variable {E' : Env}
theorem call_ok {E : Env} {n : Nat} {r : V} (hp : E'.pureF f = true) (ha : Args h ds xs) (hF : Fn P E n f xs r) : callD E' (run P E n) f ds h = some (.v r, h) := by
 obtain ⟨d, h', h1, h2⟩ := hF
 obtain ⟨a1, a2⟩ := ha.spec
 simp only [callD, hp, if_true, a1, h1, h2, a2, Bool.true_or]
theorem call_fl {E : Env} {n : Nat} {r : V} (hp : E'.pureF f = true) (ha : ArgsC h ds xs) (hr : r.flat = true) (hF : Fn P E n f xs r) : callD E' (run P E n) f ds h = some (.v r, h) := by
 obtain ⟨d, h', h1, h2⟩ := hF
 simp only [callD, hp, if_true, ha.spec, h1, h2, hr, Bool.or_true, Bool.true_or]
theorem law_run {E : Env} {n : Nat} {xs : List V} {r : V} (h : Fn P E n f (xs.map .v) r) : runV P E n f xs = some r := by
 obtain ⟨d, h', h1, h2⟩ := h
 simp only [runV, h1, h2]
end Go.Abs
