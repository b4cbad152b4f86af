import Derived.Test.YtbeegandhppniaaAbsA
namespace Go.Abs
def G0 (_g : Nat) : Option (List V) := none
def GP (_g : Nat) : List (Nat × (Option Value → Prop)) := []
end Go.Abs
