/- T5: a part of the proofs about package model: how the program's functions run, and what they compute, for every input. -/
import Derived.Test.YtpmndikbfalfoaaGreatT4
set_option linter.all false
set_option linter.unusedVariables false
set_option maxRecDepth 20000
set_option maxHeartbeats 8000000
set_option synthInstance.maxSize 1000
namespace Go.E3
open Go Go.Ear Go.Proofs
section
variable {m : Md} {c : CtF} {d : Int} {S T : SV}
structure NnC (m : Md) (c : CtF) : Prop where
  s : c.start.any negF = false
  l : ∀ i, i < m.start.length → (lvC c i).any negF = false
  y : ∀ i, i < m.start.length → (c.say.getD i []).any negF = false
end
end Go.E3
