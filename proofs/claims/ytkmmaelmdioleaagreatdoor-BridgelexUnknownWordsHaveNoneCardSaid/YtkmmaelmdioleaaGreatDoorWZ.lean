import Derived.Test.YtkmmaelmdioleaaGreatDoorWEnv
namespace Go.Abs
set_option linter.unusedVariables false
set_option linter.unusedSimpArgs false
set_option linter.unnecessarySimpa false
abbrev dd (n : Nat) (l : List AObj) : List AObj := List.replicate n .dead ++ l
variable {X : Cx} {c : Code} {σ : St} {Q : Post}
theorem Ops.sx {ops : List Oper} {Q : St → Prop} {i : Nat} {σ1 : St} (h : Ops X ops i σ1 Q) (e : σ = σ1 := by kernel_rfl) : Ops X ops i σ Q := by rw [e]; exact h
theorem Wp.rt (h : Q .ret σ) (hc : c = .ret := by kernel_rfl) : Wp X c σ Q := Wp.ret hc h
theorem sqQ.m {ks : List Nat} {L : Nat} (σ1 : St) (h : Q .normal σ1) (e : squash ks X.acc L σ = σ1 := by kernel_rfl) : sqQ X ks L Q .normal σ := sqQ.n σ1 e h
theorem blkQ.m {ks : List Nat} {L id : Nat} (σ1 : St) (h : Q .normal σ1) (e : squash ks X.acc L σ = σ1 := by kernel_rfl) : blkQ X id ks L Q .normal σ := blkQ.n σ1 e h
theorem blkQ.w {ks : List Nat} {L id : Nat} (σ1 : St) (h : Q .normal σ1) (e : squash ks X.acc L σ = σ1 := by kernel_rfl) : blkQ X id ks L Q (.exit id) σ := blkQ.x σ1 e h
theorem lpQ.m {ks : List Nat} {L n : Nat} (σ1 : St) (h : Lp X ks L c n σ1 Q) (e : squash ks X.acc L (forget ks σ) = σ1 := by kernel_rfl) : lpQ X ks L c n Q .normal σ := lpQ.n σ1 e h
theorem Wp.cd {α : Type} {b : Bool} {x y : Option α} {r : α} (h : Abs.cnd b x y = some r) (ks : List Nat) (L : Nat) (h1 : x = some r → Wp X (cL c) σ (sqQ X ks L Q)) (h2 : y = some r → Wp X (cR c) σ (sqQ X ks L Q)) (e : (X.keep.cond (okey (condOp c)), σ.heap.length, isCond c, σ.ev (condOp c)) = (ks, L, true, D.v (.bool b)) := by kernel_rfl) : Wp X c σ Q := Wp.cnd h ks L e h1 h2
theorem Wp.bk (id : Nat) (ks : List Nat) (L : Nat) (h : Wp X (cL c) σ (blkQ X id ks L Q)) (e : (X.keep.blk id, σ.heap.length, blockId c) = (ks, L, some id) := by kernel_rfl) : Wp X c σ Q := Wp.block' id ks L e h
theorem Wp.ex (id : Nat) (h : Q (.exit id) σ) (hc : c = .exit id := by kernel_rfl) : Wp X c σ Q := Wp.exit hc h
abbrev Zs0 (x0 : Int) (x1 : List S134) (x2 : Int) (x3 : Bool) (x4 : D) (x5 : D) (x6 : Int) (x7 : Int) (x8 : Int) (x9 : Bool) (x10 : Bool) (t : List D) : List D := q1 ((.ptr 0 0)::(.ptr 1 0)::(dI x0)::(.ptr 2 0)::q13 ((dP e134 x1)::(dI x2)::(dI x0)::(dB x3)::(dI x0)::x4::x5::(.ptr 2 0)::(dI x6)::(.ptr 0 0)::(dI x7)::(dI x8)::(dB x9)::(dB x10)::(dB x10)::t))
abbrev Zs1 (x0 : ByteArray) (x1 : Int) (x2 : D) (x3 : Int) (x4 : Bool) (x5 : Bool) (t : List D) : List D := (.v (.str x0))::q1 ((dB false)::(dI x1)::x2::q18 ((dI x1)::(.v (.str x0))::(dI x3)::(dB x4)::q2 ((.v (.str x0))::(dI x1)::x2::x2::(dB x5)::(dB x5)::t)))
abbrev Zs2 (x0 : D) (x1 : Int) (x2 : Int) (x3 : Int) (x4 : Bool) (t : List D) : List D := (.ptr 0 0)::x0::(dI x1)::u1 ((.ptr 1 0)::u3 ((.ptr 0 0)::(.ptr 0 0)::(.ptr 0 0)::(dI x2)::(dI x3)::(.ptr 0 0)::(.ptr 0 0)::(.ptr 0 0)::(.ptr 0 0)::(.ptr 0 0)::(dI x3)::(dB x4)::(dB x4)::t))
abbrev Zs3 (x0 : List ByteArray) (x1 : List S56) (x2 : List S63) (x3 : Bool) (x4 : Bool) (x5 : D) (x6 : D) (x7 : D) (x8 : D) (x9 : D) (x10 : Bool) (t : List D) : List D := (dP eS x0)::(dP e56 x1)::u2 ((dB false)::(dP e63 x2)::(.ptr 0 0)::(.ptr 1 0)::(dB x3)::(dB x4)::x5::x6::(dP eS x0)::(dP e56 x1)::x5::(dP e63 x2)::x7::(dP eS x0)::x8::x8::x9::(dB x10)::t)
abbrev Zs4 (x0 : ByteArray) (x1 : Int) (x2 : D) (x3 : Bool) (x4 : Int) (x5 : Bool) (x6 : Bool) (x7 : D) (x8 : D) (t : List D) : List D := (.v (.str x0))::q1 ((dB false)::(dI x1)::x2::(dB x3)::q9 ((dI x4)::(dI x1)::(dB x5)::(dI x1)::(.v (.str x0))::(dI x1)::x2::x2::(dB x6)::(dB x6)::x7::x8::(dB x3)::(dB x3)::t))
abbrev Zs5 (x0 : Int) (x1 : Int) (x2 : Int) (x3 : Bool) (t : List D) : List D := (.ptr 0 0)::(dI x0)::u2 ((dB false)::(.ptr 0 0)::(.ptr 0 0)::(.ptr 0 1)::(dI x1)::(dI x2)::(.ptr 0 0)::(.ptr 0 1)::(.ptr 0 0)::(.ptr 0 0)::(.ptr 0 1)::(dI x2)::(dB x3)::(dB x3)::t)
abbrev Zs6 (x0 : ByteArray) (x1 : List Int) (x2 : D) (x3 : D) (x4 : D) (x5 : Bool) (t : List D) : List D := (.v (.str x0))::u1 ((dB false)::(dP eI x1)::(.ptr 0 0)::u2 (x2::(.v (.str x0))::x2::(dP eI x1)::x3::x3::x4::(dB x5)::(dB x5)::t))
abbrev Zs7 (x0 : ByteArray) (x1 : List Int) (x2 : D) (x3 : D) (x4 : D) (x5 : Bool) (t : List D) : List D := (.v (.str x0))::u1 ((dB false)::(dP eI x1)::(.ptr 0 0)::u4 (x2::(.v (.str x0))::x2::(dP eI x1)::x3::x3::x4::(dB x5)::(dB x5)::t))
abbrev Zs8 (x0 : List S56) (x1 : D) (t : List D) : List D := q2 ((dP e56 x0)::(.ptr 0 0)::q2 (x1::(.ptr 1 0)::q5 t))
abbrev Zs9 (x0 : D) (x1 : D) (x2 : D) (x3 : D) (x4 : Bool) (x5 : D) (x6 : Bool) (x7 : Int) (x8 : Bool) (t : List D) : List D := x0::x1::(.ptr 0 0)::(.ptr 1 0)::(.ptr 2 0)::(.ptr 3 0)::(.ptr 4 0)::(.ptr 5 0)::u19 (x0::x2::x2::x3::(dB x4)::u2 (x1::x5::x5::x3::(dB x6)::u2 ((.ptr 0 0)::(dI x7)::(dB x8)::(dB x8)::t)))
abbrev Zs10 (x0 : Int) (t : List D) : List D := (.ptr 0 0)::q1 ((dI x0)::q3 ((.ptr 2 0)::(.ptr 3 0)::t))
abbrev Zs11 (x0 : ByteArray) (x1 : Int) (x2 : Int) (x3 : Int) (x4 : Int) (x5 : D) (x6 : Bool) (t : List D) : List D := (.v (.str x0))::(dI x1)::u2 ((dI 0)::(dI x2)::(dI x3)::(dI x4)::u2 ((.v (.str x0))::(dI x1)::x5::(dI x2)::(dI x2)::(dI x2)::(dB x6)::t))
abbrev Zs12 (x0 : Int) (x1 : List S136) (x2 : Int) (x3 : Bool) (x4 : D) (x5 : D) (x6 : Int) (x7 : Int) (x8 : Int) (x9 : Bool) (x10 : Bool) (t : List D) : List D := q1 ((.ptr 0 0)::(.ptr 1 0)::q2 ((dI x0)::(.ptr 2 0)::q40 (q31 ((dP e136 x1)::(dI x2)::(dI x0)::(dB x3)::(dI x0)::x4::x5::(.ptr 2 0)::(dI x6)::(.ptr 0 0)::(dI x7)::(dI x8)::(dB x9)::(dB x10)::(dB x10)::t))))
abbrev Zs13 (x0 : List ByteArray) (x1 : List S56) (x2 : D) (t : List D) : List D := q1 ((dP eS x0)::(dP e56 x1)::(.ptr 0 0)::q2 (x2::(.ptr 1 0)::t))
abbrev Zs14 (x0 : D) (x1 : D) (x2 : List S108) (x3 : D) (x4 : D) (x5 : D) (x6 : Bool) (t : List D) : List D := x0::(.ptr 0 0)::x1::(.ptr 1 0)::(dP e108 x2)::(.ptr 2 0)::x3::x0::x3::(dP e108 x2)::x4::x4::x5::(dB x6)::(dB x6)::t
abbrev Zs15 (x0 : Int) (x1 : Bool) (x2 : Int) (x3 : List S56) (x4 : Int) (t : List D) : List D := q2 ((.ptr 0 0)::(dI x0)::(.ptr 1 0)::q1 ((dB x1)::(dI x2)::q5 ((dP e56 x3)::(dI x4)::(dI x0)::t)))
abbrev Zs16  (t : List D) : List D := q1 ((.ptr 0 0)::(.ptr 1 0)::t)
abbrev Zs17 (x0 : Int) (x1 : List Int) (x2 : Int) (x3 : Int) (x4 : Bool) (x5 : D) (x6 : Bool) (t : List D) : List D := q2 ((dB false)::q3 ((dI x0)::q18 ((dP eI x1)::(dI x2)::(dI x3)::(dB x4)::x5::(dI x0)::(dI x0)::(dB x6)::(dB x6)::t)))
abbrev Zs18 (x0 : ByteArray) (x1 : Int) (x2 : Int) (x3 : Int) (t : List D) : List D := (.v (.str x0))::(dI x1)::q2 ((dI 0)::q1 ((dI x2)::(dI x3)::t))
abbrev Zs19 (x0 : ByteArray) (x1 : D) (t : List D) : List D := (.v (.str x0))::q1 (x1::(.ptr 0 0)::t)
abbrev Zs20 (x0 : ByteArray) (x1 : Int) (x2 : Bool) (t : List D) : List D := (.v (.str x0))::u1 ((dB false)::u2 ((.v (.str x0))::(dI x1)::(dB x2)::(dB x2)::t))
abbrev Zs21 (x0 : ByteArray) (t : List D) : List D := (.v (.str x0))::q1 ((dB false)::t)
abbrev Zs22 (x0 : Int) (x1 : List Int) (x2 : Int) (x3 : Int) (x4 : D) (x5 : Int) (t : List D) : List D := q2 ((dB false)::q3 ((dI x0)::q20 ((dP eI x1)::(dI x2)::(dI x3)::q3 (x4::(dI x5)::t))))
abbrev Zs23 (x0 : Int) (t : List D) : List D := (.ptr 0 0)::q1 ((dI x0)::t)
abbrev Zs24  (t : List D) : List D := q1 ((.ptr 0 0)::(dI 0)::t)
abbrev Zs25 (x0 : List Int) (x1 : Int) (t : List D) : List D := q2 ((.ptr 0 0)::(.ptr 1 0)::q10 ((dP eI x0)::(dI x1)::t))
abbrev Zs26 (x0 : Int) (x1 : Bool) (t : List D) : List D := (dI x0)::u1 ((dB false)::(dI x0)::(dB x1)::(dB x1)::t)
abbrev Zs27 (x0 : List ByteArray) (x1 : List ByteArray) (x2 : Int) (t : List D) : List D := (dP eS x0)::(dP eS x1)::q2 ((dB false)::q7 ((dI x2)::t))
abbrev Zs28 (x0 : D) (x1 : Int) (x2 : Int) (x3 : ByteArray) (x4 : Int) (x5 : D) (x6 : Bool) (t : List D) : List D := (.ptr 0 0)::x0::(dI x1)::u1 ((.ptr 1 0)::u1 ((.ptr 2 0)::(.ptr 3 0)::u2 ((.ptr 1 0)::(dI x2)::(.ptr 1 1)::(.v (.str x3))::(.ptr 1 2)::(dI x4)::x5::(.ptr 1 0)::(dI x2)::(dB x6)::(dB x6)::t)))
abbrev Zs29 (x0 : List Int) (x1 : Int) (t : List D) : List D := q2 ((dI 0)::(dI 0)::q2 ((dP eI x0)::(dI x1)::t))
abbrev Zs30 (x0 : List S56) (x1 : Int) (x2 : Int) (t : List D) : List D := q2 ((.ptr 0 0)::q10 ((dP e56 x0)::(dI x1)::(dI x2)::q40 (q15 t)))
abbrev Zs31 (x0 : List Int) (x1 : Int) (t : List D) : List D := q2 ((dB false)::q22 ((dP eI x0)::(dI x1)::t))
abbrev Zs32 (x0 : List Int) (x1 : Int) (t : List D) : List D := q2 ((dB false)::q24 ((dP eI x0)::(dI x1)::t))
abbrev Zs33  (t : List D) : List D := q6 ((.ptr 2 0)::(.ptr 3 0)::t)
abbrev Zs34 (x0 : List ByteArray) (x1 : Int) (t : List D) : List D := q2 ((.ptr 0 0)::q6 ((dP eS x0)::(dI x1)::t))
abbrev Zs35 (x0 : List ByteArray) (x1 : Int) (t : List D) : List D := q4 ((dI 0)::q6 ((dP eS x0)::(dI x1)::t))
abbrev Zs36 (x0 : D) (x1 : List Int) (t : List D) : List D := q2 (x0::(.ptr 0 0)::(appD 2 (List.map eI x1))::t)
end Go.Abs
