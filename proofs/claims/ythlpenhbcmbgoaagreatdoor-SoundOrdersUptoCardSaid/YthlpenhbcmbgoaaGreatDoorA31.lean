/- A31: a part of the proofs about what is clipped and stored: how the program's functions run, and what they compute, for every input. -/
import Derived.Test.YthlpenhbcmbgoaaGreatDoorA30
set_option linter.all false
set_option linter.unusedVariables false
set_option maxRecDepth 20000
set_option maxHeartbeats 4000000
set_option synthInstance.maxSize 1000
namespace Go.E3
open Go Go.Ear Go.Proofs
def denD (x : Rat) : Nat := if x.den = 1 then 0 else x.den
theorem digs_one {n : Nat} (h : (digs n).length = 1) (h1 : (digs n).getD 0 0 = 1) : n = 1 := by
  obtain ⟨a, ha⟩ := List.length_eq_one_iff.1 h
  have e := val_digs n
  rw [ha] at e h1
  have h1 : a = 1 := h1
  rw [h1] at e
  exact e.symm
def CnF (f : List Fo) : Prop := f.length ≤ 1000000 ∧ ∀ e ∈ f, e.f = frK e.f.rat ∧ e.ph.length ≤ 1000000 ∧ bq e.f.rat ≤ 10000000
def oneAt (f : List Fo) (i : Nat) : Bool := decide (0 < sgQ (f.getD i fo0).f.rat) && (decide (i = 0) || !(decide (sgQ ((f.getD (i - 1) fo0).f.rat - (f.getD i fo0).f.rat) < 0) || (decide (sgQ ((f.getD (i - 1) fo0).f.rat - (f.getD i fo0).f.rat) = 0) && decide (0 ≤ ordI (f.getD (i - 1) fo0).ph (f.getD i fo0).ph))))
def oneB (f : List Fo) : Bool := (List.range f.length).all (oneAt f) && decide (sgQ (sumF (f.map Fo.f) - ((1 : Int) : Rat)) = 0)
end Go.E3
