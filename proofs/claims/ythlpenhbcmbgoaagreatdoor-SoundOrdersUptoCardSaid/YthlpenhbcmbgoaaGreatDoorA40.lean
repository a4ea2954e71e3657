/- A40: a part of the proofs about what is clipped and stored: how the program's functions run, and what they compute, for every input. -/
import Derived.Test.YthlpenhbcmbgoaaGreatDoorA39
set_option linter.all false
set_option linter.unusedVariables false
set_option maxRecDepth 20000
set_option maxHeartbeats 4000000
set_option synthInstance.maxSize 1000
namespace Go.E3
open Go Go.Ear Go.Proofs
def pdL : List (List En) → Nat
  | [] => 1
  | o :: L => o.length * pdL L
def jnS (l : List En) (a b : List ByteArray) (q : List Int) (n : Nat) : Rat := sQ ((List.range n).map fun k => wgT l [] a (q.take k) * wgT l [] b (q.drop k))
end Go.E3
