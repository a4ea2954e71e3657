/- A34: a part of the proofs about what is clipped and stored: how the program's functions run, and what they compute, for every input. -/
import Derived.Test.YthlpenhbcmbgoaaGreatDoorA30
import Derived.Test.YthlpenhbcmbgoaaGreatDoorK12
import Derived.Test.YthlpenhbcmbgoaaGreatDoorEarM17
set_option linter.all false
set_option linter.unusedVariables false
set_option maxRecDepth 20000
set_option maxHeartbeats 4000000
set_option synthInstance.maxSize 1000
namespace Go.E3
open Go Go.Ear Go.Proofs
section
variable {α : Type} {P : Program} {n : Nat} {c : Bool} {loc env : EL} {B : List Res} {ms : List Nat} {d : Nat} {t e : TypeId}
end
def befI (ls : List (List Int)) (l : List Int) : Nat := (ls.takeWhile fun x => decide (ordI x l < 0)).length
def putI (ls : List (List Int)) (l : List Int) : List (List Int) := if befI ls l < ls.length ∧ ordI (ls.getD (befI ls l) []) l = 0 then ls else ls.take (befI ls l) ++ [l] ++ ls.drop (befI ls l)
end Go.E3
