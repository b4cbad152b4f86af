import Derived.Test.YtmoiipfomcgomaaGreatDoorAbsA
import Derived.Lib.DecodeN
namespace Go.Abs
def firstTab : List V := (List.range 256).map fun c => .int .u8 (Lib.firstT c)
def acceptTab : List V := (List.range 32).map fun j => .int .u8 (if j % 2 = 0 then Lib.accLo (j / 2) else Lib.accHi (j / 2))
def G0 (g : Nat) : Option (List V) := match g with
 | 0 => some firstTab
 | 1 => some acceptTab
 | _ => none
end Go.Abs
