import GoSem.ClaimData
namespace Go.Abs
inductive SFlag where
 | plain | nil | full | non | nonfull
def SFlag.isFull : SFlag → Bool
 | .nil | .full | .nonfull => true
 | _ => false
def SFlag.isNil : SFlag → Option Bool
 | .nil => some true
 | .non | .nonfull => some false
 | _ => none
inductive V where
 | bool (b : Bool)
 | int (k : IntKind) (n : Int)
 | str (s : ByteArray)
 | nilptr
 | nilmap
 | nilfunc
 | fn (f : FuncId)
 | clo (f : FuncId) (caps : List V)
 | sl (fl : SFlag) (elems : List V)
 | agg (cells : List V)
 | tuple (vs : List V)
 | ptr (cells : List V)
 | map (ks vs : List V)
end Go.Abs
