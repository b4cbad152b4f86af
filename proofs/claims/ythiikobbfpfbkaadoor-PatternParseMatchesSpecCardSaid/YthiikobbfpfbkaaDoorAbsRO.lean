import GoSem.ClaimData
import Derived.Lib.DecodeN
namespace Go.Abs
inductive SFlag where
 | plain | nil | full | non | nonfull
def SFlag.isFull : SFlag → Bool
 | .nil | .full | .nonfull => true
 | _ => false
def SFlag.isNil : SFlag → Option Bool
 | .nil => some true
 | .non | .nonfull => some false
 | _ => none
inductive V where
 | bool (b : Bool)
 | int (k : IntKind) (n : Int)
 | str (s : ByteArray)
 | nilptr
 | nilmap
 | nilfunc
 | fn (f : FuncId)
 | clo (f : FuncId) (caps : List V)
 | sl (fl : SFlag) (elems : List V)
 | agg (cells : List V)
 | tuple (vs : List V)
 | ptr (cells : List V)
 | map (ks vs : List V)
def firstTab : List V := (List.range 256).map fun c => .int .u8 (Lib.firstT c)
def acceptTab : List V := (List.range 32).map fun j => .int .u8 (if j % 2 = 0 then Lib.accLo (j / 2) else Lib.accHi (j / 2))
def G0 (g : Nat) : Option (List V) := match g with
 | 0 => some firstTab
 | 1 => some acceptTab
 | _ => none
end Go.Abs
