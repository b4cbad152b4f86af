import Derived.Test.YthiikobbfpfbkaaDoorAbsW
namespace Go.Abs
set_option linter.unusedVariables false
@[simp] theorem cnd_true {α : Type} (x y : Option α) : cnd true x y = x := rfl
@[simp] theorem cnd_false {α : Type} (x y : Option α) : cnd false x y = y := rfl
@[simp] theorem bnd_some' {α β : Type} (a : α) (f : α → Option β) : bnd (some a) f = f a := rfl
@[simp] theorem bnd_none {α β : Type} (f : α → Option β) : bnd none f = none := rfl
@[simp] theorem brk_inl {R A B : Type} (r : R) (f : R → Option B) (g : A → Option B) : brk (some (.inl r)) f g = f r := rfl
@[simp] theorem brk_inr {R A B : Type} (a : A) (f : R → Option B) (g : A → Option B) : brk (some (.inr a)) f g = g a := rfl
theorem w64_id {n : Int} (h : -9223372036854775808 ≤ n ∧ n ≤ 9223372036854775807) : w64 n = n := by
 unfold w64 IntKind.wrap
 simp [IntKind.bits, IntKind.signed]
 omega
end Go.Abs
