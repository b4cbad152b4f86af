import Derived.Test.YtgbhimkbfaebeaaGreatDoorAbsA
import Derived.Lib.DecodeN
import Derived.Lib.ItoaNum
namespace Go.Abs
def firstTab : List V := (List.range 256).map fun c => .int .u8 (Lib.firstT c)
def acceptTab : List V := (List.range 32).map fun j => .int .u8 (if j % 2 = 0 then Lib.accLo (j / 2) else Lib.accHi (j / 2))
def powTab : List V := Lib.pow10Tab.map fun z => .int .u64 z
def G0 (g : Nat) : Option (List V) := match g with
 | 1 => some powTab
 | 2 => some firstTab
 | 3 => some acceptTab
 | _ => none
def GP (g : Nat) : List (Nat × (Option Value → Prop)) := match g with
 | 0 => [(0, fun v => ∃ m, v = some (.int .i64 m))]
 | 1 => [(20, fun v => v = none)]
 | 4 => [(0, fun v => ∃ te pe, v = some (.iface te pe))]
 | 5 => [(0, fun v => ∃ te pe, v = some (.iface te pe))]
 | _ => []
end Go.Abs
