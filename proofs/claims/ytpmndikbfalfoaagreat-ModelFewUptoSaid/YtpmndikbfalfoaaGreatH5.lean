/- H5: a part of the proofs about package model: how the program's functions run, and what they compute, for every input. -/
import Derived.Test.YtpmndikbfalfoaaGreatK11
set_option linter.all false
set_option linter.unusedVariables false
set_option maxRecDepth 20000
set_option maxHeartbeats 4000000
set_option synthInstance.maxSize 1000
namespace Go.E3
open Go Go.Ear Go.Proofs
structure POk (m : Md) (o path : List Int) : Prop where
  l : path.length = o.length
  i : ∀ k, k < o.length → 0 ≤ path.getD k 0 ∧ (path.getD k 0).toNat < m.start.length
def gW (t : Tr) (p : List Int) (k : Nat) : Fr := if k = 0 then t.m.start.getD (Go.Ear.pa p 0) fr0 else frK (wF t p k)
section
variable {m : Md} {o path : List Int} {S T U : SV}
end
theorem POk.of {m : Md} {o p : List Int} (h : p ∈ pathsL m.start.length o.length) : POk m o p := by
  have hl := paths_len h
  refine ⟨hl, fun k hk => ?_⟩
  have := paths_all h (p.getD k 0) (getD_mem' p 0 (by omega))
  omega
theorem MdW.up {a b : Nat} {m : Md} (w : MdW a m) (h : a ≤ b) : MdW b m := ⟨fun i => Nat.le_trans (w.st i) h, fun i j => Nat.le_trans (w.mv i j) h, fun i => Nat.le_trans (w.fi i) h, fun i j => Nat.le_trans (w.sy i j) h⟩
theorem fair_all' {m : Md} {o : List Int} {s f : Nat} (ft : FtM m) (h : fairB m o s f = true) : Good m s ∧ o.length ≤ f ∧ checkE [m] [o] = 0 := by
  have := fair_all h
  exact ⟨Good.of ft this.1 this.2.2, this.2.1, this.2.2⟩
end Go.E3
