/- A39: a part of the proofs about what is clipped and stored: how the program's functions run, and what they compute, for every input. -/
import Derived.Test.YthlpenhbcmbgoaaGreatDoorA33
import Derived.Test.YthlpenhbcmbgoaaGreatDoorA34
set_option linter.all false
set_option linter.unusedVariables false
set_option maxRecDepth 20000
set_option maxHeartbeats 4000000
set_option synthInstance.maxSize 1000
namespace Go.E3
open Go Go.Ear Go.Proofs
def jw (C : List (List En)) (q : List Int) : Rat := sQ (C.map fun c => wJ c * if phJ c = q then 1 else 0)
end Go.E3
