import Derived.Test.YtgbhimkbfaebeaaGreatDoorAbsG
import Derived.Test.YtgbhimkbfaebeaaGreatDoorAbsW
namespace Go.Abs
set_option linter.unusedVariables false
set_option linter.unusedSimpArgs false
set_option linter.unnecessarySimpa false
variable {DR : Prop}
def Ht (DR : Prop) (P : Program) (c : Code) (σ : St) (Q : Post) : Prop := ∀ S β a w, Inv S β σ a w → c.wp P (fun ex a' w' => ∃ e σ', Q e σ' ∧ Ends DR S β w e σ' ex a' w') a w
structure Hx (DR : Prop) (P : Program) (X : Cx) : Prop where
 mixed : P.follows .mixedOrders = true
 types : ∀ t i, X.E.T t = some i → tiOf P t = some i
 calls : CSound DR P X.Γ
variable {P : Program} {X : Cx} {c : Code} {σ : St} {Q Q' : Post}
theorem Ht.mono (h : Ht DR P c σ Q) (hq : ∀ e σ', Q e σ' → Q' e σ') : Ht DR P c σ Q' := fun S β a w hI => wp_mono (h S β a w hI) fun _ _ _ ⟨e, σ', h1, h2⟩ => ⟨e, σ', hq e σ' h1, h2⟩
theorem Ht.of_wp (H : Hx DR P X) (h : Wp X c σ Q) : Ht DR P c σ Q := by
 obtain ⟨e, σ', h1, h2⟩ := h
 intro S β a w hI
 exact wp_mono (aeval_sound H.mixed H.types H.calls X.keep X.acc X.n c σ e σ' h1 S β a w hI) fun _ _ _ hh => ⟨e, σ', h2, hh⟩
theorem Ht.region (H : Hx DR P X) (hc : regionOk X.E c = true) (h : Ops X (opl c) 0 σ (Q .normal)) : Ht DR P c σ Q := .of_wp H (Wp.region hc h)
theorem Ht.skip (hc : c = .skip) (h : Q .normal σ) : Ht DR P c σ Q := by
 subst hc; exact fun S β a w hI => wp_skip ⟨.normal, σ, h, rfl, S, β, hI, Ext.refl _ _ _⟩
theorem Ht.ret (hc : c = .ret) (h : Q .ret σ) : Ht DR P c σ Q := by
 subst hc; exact fun S β a w hI => wp_ret ⟨.ret, σ, h, rfl, S, β, hI, Ext.refl _ _ _⟩
theorem Ht.exit {id : Nat} (hc : c = .exit id) (h : Q (.exit id) σ) : Ht DR P c σ Q := by
 subst hc; exact fun S β a w hI => wp_exit ⟨.exit id, σ, h, rfl, S, β, hI, Ext.refl _ _ _⟩
def seqH (DR : Prop) (P : Program) (b : Code) (Q : Post) : Post
 | .normal, σ => Ht DR P b σ Q
 | e, σ => Q e σ
theorem Ht.seq (hc : isSeq c = true) (h : Ht DR P (cL c) σ (seqH DR P (cR c) Q)) : Ht DR P c σ Q := by
 cases c <;> first | (cases hc; done) | skip
 rename_i x y
 intro S β a w hI
 refine wp_seq (wp_mono (h S β a w hI) ?_)
 rintro ex a1 w1 ⟨e, σ1, hq, rfl, S1, β1, hI1, hE1⟩
 cases e with
 | normal => exact wp_mono (hq S1 β1 a1 w1 hI1) fun _ _ _ ⟨e2, σ2, q2, hh⟩ => ⟨e2, σ2, q2, hh.ext hE1⟩
 | exit id => exact ⟨.exit id, σ1, hq, rfl, S1, β1, hI1, hE1⟩
 | ret => exact ⟨.ret, σ1, hq, rfl, S1, β1, hI1, hE1⟩
theorem seqH.n {b : Code} (h : Ht DR P b σ Q) : seqH DR P b Q .normal σ := h
theorem Ht.cond (x : Bool) (hc : isCond c = true) (hv : σ.ev (condOp c) = .v (.bool x)) (h1 : x = true → Ht DR P (cL c) σ Q) (h2 : x = false → Ht DR P (cR c) σ Q) : Ht DR P c σ Q := by
 cases c <;> first | (cases hc; done) | skip
 rename_i o y z
 intro S β a w hI
 have ho := hI.ev o
 have hv : σ.ev o = .v (.bool x) := hv
 rw [hv] at ho
 have hc' : a.eval o = .bool x := by
  generalize a.eval o = v at ho
  cases ho.of_v; rfl
 cases x with
 | true => exact wp_cond_true hc' (h1 rfl S β a w hI)
 | false => exact wp_cond_false hc' (h2 rfl S β a w hI)
def blkH (id : Nat) (Q : Post) : Post
 | .normal, σ => Q .normal σ
 | .exit id', σ => if id' = id then Q .normal σ else Q (.exit id') σ
 | .ret, σ => Q .ret σ
theorem blkH.x {id : Nat} (h : Q .normal σ) : blkH id Q (.exit id) σ := by simp only [blkH, if_true]; exact h
theorem blkH.y {id id' : Nat} (hne : (id' == id) = false) (h : Q (.exit id') σ) : blkH id Q (.exit id') σ := by simp only [blkH, if_neg (by simpa using hne)]; exact h
theorem Ht.block (id : Nat) (hc : blockId c = some id) (h : Ht DR P (cL c) σ (blkH id Q)) : Ht DR P c σ Q := by
 cases c <;> first | (cases hc; done) | skip
 cases hc
 intro S β a w hI
 refine wp_block (wp_mono (h S β a w hI) ?_)
 rintro ex a1 w1 ⟨e, σ1, hq, rfl, S1, β1, hI1, hE1⟩
 cases e with
 | normal => exact ⟨.normal, σ1, hq, rfl, S1, β1, hI1, hE1⟩
 | exit id' =>
  simp only [blkH] at hq
  by_cases hid : id' = id
  ·subst hid
   rw [if_pos rfl] at hq
   simp only [AExit.to, Exit.inBlock, if_true]
   exact ⟨.normal, σ1, hq, rfl, S1, β1, hI1, hE1⟩
  ·rw [if_neg hid] at hq
   simp only [AExit.to, Exit.inBlock, hid, if_false]
   exact ⟨.exit id', σ1, hq, rfl, S1, β1, hI1, hE1⟩
 | ret => exact ⟨.ret, σ1, hq, rfl, S1, β1, hI1, hE1⟩
def lpH (I : Nat → St → Prop) (m : Nat) (Q : Post) : Post
 | .normal, σ => ∃ k, k < m ∧ I k σ
 | e, σ => Q e σ
theorem Ht.loop (I : Nat → St → Prop) (n : Nat) (hc : isLoop c = true) (h0 : I n σ) (step : ∀ m σ, I m σ → Ht DR P (cL c) σ (lpH I m Q)) : Ht DR P c σ Q := by
 cases c <;> first | (cases hc; done) | skip
 rename_i b
 intro S β a w hI
 refine wp_loop_ghost (fun n a' w' => ∃ σ1 S1 β1, I n σ1 ∧ Inv S1 β1 σ1 a' w' ∧ Ext DR S β w S1 β1 w') n ⟨σ, S, β, h0, hI, Ext.refl _ _ _⟩ ?_
 rintro m a' w' ⟨σ1, S1, β1, h1, hI1, hE1⟩
 refine wp_mono (step m σ1 h1 S1 β1 a' w' hI1) ?_
 rintro ex a2 w2 ⟨e, σ2, hq, rfl, S2, β2, hI2, hE2⟩
 cases e with
 | normal =>
  obtain ⟨k, hk, hi⟩ := hq
  exact ⟨k, hk, σ2, S2, β2, hi, hI2, hE1.trans hE2⟩
 | exit id => exact ⟨.exit id, σ2, hq, rfl, S2, β2, hI2, hE1.trans hE2⟩
 | ret => exact ⟨.ret, σ2, hq, rfl, S2, β2, hI2, hE1.trans hE2⟩
theorem Ht.forget (ks : List Nat) (h : Ht DR P c (Abs.forget ks σ) Q) : Ht DR P c σ Q := fun S β a w hI => h S β a w (hI.forget ks)
def opsOf : Code → Array Oper
 | .region _ ops _ => ops
 | _ => #[]
def isDrawn : Code → Bool
 | .region _ _ draw => draw
 | _ => false
theorem Ht.sq (h : Ht DR P (cL c) σ (seqH DR P (cR c) Q)) (hc : isSeq c = true := by kernel_rfl) : Ht DR P c σ Q := Ht.seq hc h
theorem Ht.rg (H : Hx DR P X) (h : Ops X (opl c) 0 σ (Q .normal)) (hc : regionOk X.E c = true := by kernel_rfl) : Ht DR P c σ Q := Ht.region H hc h
theorem Ht.sk (h : Q .normal σ) (hc : c = .skip := by kernel_rfl) : Ht DR P c σ Q := Ht.skip hc h
theorem Ht.rt (h : Q .ret σ) (hc : c = .ret := by kernel_rfl) : Ht DR P c σ Q := Ht.ret hc h
theorem Ht.bk (id : Nat) (h : Ht DR P (cL c) σ (blkH id Q)) (hc : blockId c = some id := by kernel_rfl) : Ht DR P c σ Q := Ht.block id hc h
theorem Ht.ex {id : Nat} (h : Q (.exit id) σ) (hc : c = .exit id := by kernel_rfl) : Ht DR P c σ Q := Ht.exit hc h
end Go.Abs
