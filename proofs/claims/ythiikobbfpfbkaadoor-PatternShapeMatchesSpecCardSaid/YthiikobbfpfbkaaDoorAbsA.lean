/-
  THE ABSTRACT LAYER, 0: pure values.
-/
import GoSem.ClaimData
namespace Go.Abs

/-- what is known of a slice besides its elements -/
inductive SFlag where
  | plain | nil | full | non | nonfull
def SFlag.isFull : SFlag → Bool
  | .nil | .full | .nonfull => true
  | _ => false
def SFlag.isNil : SFlag → Option Bool
  | .nil => some true
  | .non | .nonfull => some false
  | _ => none

/-- pure values: what memory that never changes again holds -/
inductive V where
  | bool (b : Bool)
  | int (k : IntKind) (n : Int)
  | str (s : ByteArray)
  | nilptr
  | nilmap
  | nilfunc
  | fn (f : FuncId)
  | clo (f : FuncId) (caps : List V)
  | sl (fl : SFlag) (elems : List V)
  | agg (cells : List V)
  | tuple (vs : List V)
  | ptr (cells : List V)
  | map (ks vs : List V)

end Go.Abs
