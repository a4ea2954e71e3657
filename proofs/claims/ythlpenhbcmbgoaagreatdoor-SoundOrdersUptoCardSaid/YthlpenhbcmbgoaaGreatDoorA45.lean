/- A45: a part of the proofs about what is clipped and stored: how the program's functions run, and what they compute, for every input. -/
import Derived.Test.YthlpenhbcmbgoaaGreatDoorA43
import Derived.Test.YthlpenhbcmbgoaaGreatDoorLawSoundPrecise
set_option linter.all false
set_option linter.unusedVariables false
set_option maxRecDepth 20000
set_option maxHeartbeats 4000000
set_option synthInstance.maxSize 1000
namespace Go.E3
open Go Go.Ear Go.Proofs
def vaL (l : List En) (w : ByteArray) : List Fo := if valB l = true ∧ ownE l w ≠ [] then srtF (vaB l w) else []
def vaE (l : List En) (w : ByteArray) : Int := if valB l = true then (if ownE l w = [] then 7 else 0) else 2
def FoM (l : List Fo) : Prop := l.length ≤ 1000000 ∧ ∀ e ∈ l, e.ph.length ≤ 1000000 ∧ bf e.f ≤ 1000000 ∧ Fit e.f.n ∧ Fit e.f.d
end Go.E3
namespace Go.E3
end Go.E3
