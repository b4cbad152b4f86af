import Derived.Shelf.Small.Bits
import Derived.Shelf.Strconv.Itoa0
import Derived.Shelf.Bits.Mul64
import Derived.Test.YtgmbaemdedachaaProg
namespace Go.Proofs
open Go.Shelf
def Try.lays212_ren : Go.Shelf.Ren := ⟨fun | 212 => 79 | 263 => 87 | 264 => 88 | n => n, fun | 46 => 124 | 51 => 135 | 146 => 136 | 53 => 138 | 148 => 139 | n => n, fun | n => n⟩
theorem Try.lays212 : Go.Proofs.Lays.n212 Try.prog Try.lays212_ren := {
 mixed := by kernel_rfl
 f212 := Try.func79.trans (congrArg some (by kernel_rfl))
 f263 := Try.func87.trans (congrArg some (by kernel_rfl))
 f264 := Try.func88.trans (congrArg some (by kernel_rfl))
 t46 := Try.underlying124
 a46 := Try.isAgg124
 z46 := Try.sizeOf124
 v46 := Try.zeroValue124
 t51 := Try.underlying135
 a51 := Try.isAgg135
 z51 := Try.sizeOf135
 v51 := Try.zeroValue135
 t53 := Try.underlying138
 a53 := Try.isAgg138
 z53 := Try.sizeOf138
 v53 := Try.zeroValue138
 t146 := Try.underlying136
 a146 := Try.isAgg136
 z146 := Try.sizeOf136
 v146 := Try.zeroValue136
 t148 := Try.underlying139
 a148 := Try.isAgg139
 z148 := Try.sizeOf139
 v148 := Try.zeroValue139 }
open Go.RowKit Go.Lib in
theorem Try.bits_Mul (x y : Nat) (hx : x < 18446744073709551616) (hy : y < 18446744073709551616) (w : World) :
  Calls Try.prog 79 #[.int .u64 x, .int .u64 y] w fun e w' => e = .returned (.tuple #[.int .u64 ((x * y / 18446744073709551616 : Nat) : Int), .int .u64 ((x * y % 18446744073709551616 : Nat) : Int)]) ∧ w' = w := Any.bits_Mul Try.lays212 x y hx hy w
end Go.Proofs
