/- A49: a part of the proofs about what is clipped and stored: how the program's functions run, and what they compute, for every input. -/
import Derived.Test.YthlpenhbcmbgoaaGreatDoorA48
set_option linter.all false
set_option linter.unusedVariables false
set_option maxRecDepth 20000
set_option maxHeartbeats 4000000
set_option synthInstance.maxSize 1000
namespace Go.E3
open Go Go.Ear Go.Proofs
def bgK (l : List En) (k : Nat) : List (List Int) := (l.take k).flatMap fun e => (List.range e.ph.length).map fun j => e.ph.take (j + 1)
def bgN (l : List En) (k n : Nat) : List (List Int) := bgK l k ++ (List.range n).map fun j => (l.getD k en0).ph.take (j + 1)
def bgP (L : List (List Int)) : List (List Int) := L.foldl putI [[]]
end Go.E3
