/-
  THE GUESSER AS A VALUE: a tree of nodes in memory that never changes again.
-/
import Derived.Test.YtgieobehohljnaaDoorAbsW
namespace Go.Abs

/-- behind each end of words (its letters from the back): the letters that come next, and how many samples of each tag end so -/
structure Gz where
  ks : List Int → List Int
  cs : List Int → List (ByteArray × Int)
def Gz.empty : Gz := ⟨fun _ => [], fun _ => []⟩
def cntsV (l : List (ByteArray × Int)) : V := .map (l.map fun x => .str x.1) (l.map fun x => .int .i64 x.2)
/-- a node, and so many levels below it -/
def treeV (g : Gz) : Nat → List Int → V
  | 0, p => .ptr [.map [] [], cntsV (g.cs p)]
  | d + 1, p => .ptr [.map ((g.ks p).map fun x => .int .i64 x) ((g.ks p).map fun x => treeV g d (p ++ [x])), cntsV (g.cs p)]
def eGz : Option Gz → V
  | none => .nilptr
  | some g => treeV g 5 []
end Go.Abs
