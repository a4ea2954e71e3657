/- A33: a part of the proofs about what is clipped and stored: how the program's functions run, and what they compute, for every input. -/
import Derived.Test.YthlpenhbcmbgoaaGreatDoorA32
set_option linter.all false
set_option linter.unusedVariables false
set_option maxRecDepth 20000
set_option maxHeartbeats 4000000
set_option synthInstance.maxSize 1000
namespace Go.E3
open Go Go.Ear Go.Proofs
def saidB (ws : List ByteArray) (most : Nat) : Bool := ((List.range (min ws.length (most + 1))).all fun i => decide ((ws.getD i ByteArray.empty).size ≤ 60)) && decide (ws.length ≤ most)
def longB (l : List En) (most : Int) : Bool := l.any fun e => decide (most < e.ph.length)
end Go.E3
