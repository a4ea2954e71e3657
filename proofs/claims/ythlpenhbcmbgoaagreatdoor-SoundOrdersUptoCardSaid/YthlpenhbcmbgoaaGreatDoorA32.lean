/- A32: a part of the proofs about what is clipped and stored: how the program's functions run, and what they compute, for every input. -/
import Derived.Test.YthlpenhbcmbgoaaGreatDoorA31
set_option linter.all false
set_option linter.unusedVariables false
set_option maxRecDepth 20000
set_option maxHeartbeats 4000000
set_option synthInstance.maxSize 1000
namespace Go.E3
open Go Go.Ear Go.Proofs
def fewE (x : Rw) : Bool := decide (x.from_.length ≤ 8) && (decide (x.to.length ≤ 8) && (decide (x.left.length ≤ 210) && (decide (x.right.length ≤ 210) && smB x.f)))
def fewB (r : List Rw) : Bool := !(decide (6 < r.length) && decide (r.length ≤ 50)) && (decide (r.length ≤ 60) && r.all fewE)
def UpR (r : List Rw) : Prop := r.length ≤ 2000000 ∧ ∀ x ∈ r, Fit x.f.n ∧ Fit x.f.d
theorem sgQ_neg (x : Rat) : sgQ (-x) = - sgQ x := by
  have h1 := @sgQ_pos x
  have h2 := @sgQ_pos (-x)
  have h3 := @sgQ_zero x
  have h4 := @sgQ_zero (-x)
  rcases sgQ_rng x with e | e | e <;> rcases sgQ_rng (-x) with f | f | f <;> rw [e, f] <;> first | rfl | skip
  all_goals (exfalso; rw [e] at h1 h3; rw [f] at h2 h4; simp at h1 h2 h3 h4; grind)
def sureR (r : List Rw) : List Rw := r.map fun x => ⟨x.from_, x.to, x.left, x.right, frK ((1 : Int) : Rat)⟩
end Go.E3
