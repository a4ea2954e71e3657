/- A36: a part of the proofs about what is clipped and stored: how the program's functions run, and what they compute, for every input. -/
import Derived.Test.YthlpenhbcmbgoaaGreatDoorA35
set_option linter.all false
set_option linter.unusedVariables false
set_option maxRecDepth 20000
set_option maxHeartbeats 4000000
set_option synthInstance.maxSize 1000
namespace Go.E3
open Go Go.Ear Go.Proofs
def wsP (l : List En) (q : List Int) : List ByteArray := (l.filter fun e => decide (e.ph = q)).map (·.w)
def hmL (l : List En) (ks : List (List Int)) : List (List ByteArray) := (ks.map (wsP l)).filter fun w => decide (1 < w.length)
def hoL (l : List En) : List (List ByteArray) := if valB l = true then hmL l (dstI (phsL l)) else []
end Go.E3
