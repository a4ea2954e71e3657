/- A51: a part of the proofs about what is clipped and stored: how the program's functions run, and what they compute, for every input. -/
import Derived.Test.YthlpenhbcmbgoaaGreatDoorLawSoundTrees
set_option linter.all false
set_option linter.unusedVariables false
set_option maxRecDepth 20000
set_option maxHeartbeats 4000000
set_option synthInstance.maxSize 1000
namespace Go.E3
open Go Go.Ear Go.Proofs
def brT (p : List Int) (b : Fr) (e : En) : Fr := if e.ph.take p.length = p ∧ 0 < sgQ (e.f.rat - b.rat) then e.f else b
def brN (l : List En) (p : List Int) (n : Nat) : Fr := (l.take n).foldl (brT p) fr0
def brC (l : List En) (p : List Int) (n c : Nat) : Fr := if c ≤ p.length then brN l p (n + 1) else brN l p n
def brK (l : List En) (K : List (List Int)) (n c : Nat) : List Fr := (List.range K.length).map fun k => brC l (K.getD k []) n c
def brL (l : List En) (K : List (List Int)) (n : Nat) : List Fr := (List.range K.length).map fun k => brN l (K.getD k []) n
section
variable {l : List En} {K : List (List Int)} {n : Nat}
end
end Go.E3
