/- H7: a part of the proofs about package model: how the program's functions run, and what they compute, for every input. -/
import Derived.Test.YtpmndikbfalfoaaGreatH6
set_option linter.all false
set_option linter.unusedVariables false
set_option maxRecDepth 20000
set_option maxHeartbeats 8000000
set_option synthInstance.maxSize 1000
namespace Go.E3
open Go Go.Ear Go.Proofs
def befN (row : List Rat) (i : Nat) : Nat → Nat
  | 0 => 0
  | j + 1 => if row.getD i 0 < row.getD j 0 ∨ (row.getD j 0 = row.getD i 0 ∧ j < i) then befN row i j + 1 else befN row i j
def keptR (row : List Rat) (keep : Int) : List Rat := (List.range row.length).map fun i => if (befN row i row.length : Int) < keep then row.getD i 0 else 0
theorem keptR_len (row : List Rat) (keep : Int) : (keptR row keep).length = row.length := by simp [keptR]
theorem keptR_bq {row : List Rat} {keep : Int} {B : Nat} (hB : 1 ≤ B) (h : ∀ i, bq (row.getD i 0) ≤ B) (i : Nat) : bq ((keptR row keep).getD i 0) ≤ B := by
  by_cases hi : i < row.length
  · rw [keptR, range_getD _ _ hi]; split; exact h i; rw [bq_zero]; exact hB
  · rw [out_bq (by rw [keptR_len]; omega)]; exact hB
section
variable {α : Type}
end
section
variable {row : List Rat} {keep : Int} {S : SV}
end
def rfw (t : Tr) (keep : Int) : Nat → List Rat
  | 0 => keptR ((List.range t.m.start.length).map fun i => (t.m.start.getD i fr0).rat * sayT t i 0) keep
  | k + 1 => keptR ((List.range t.m.start.length).map fun i => sumTo (fun j => (rfw t keep k).getD j 0 * moveT t j i) t.m.start.length * sayT t i (k + 1)) keep
def rawI (t : Tr) (keep : Int) (k i : Nat) : Rat := (if k = 0 then (t.m.start.getD i fr0).rat else sumTo (fun j => (rfw t keep (k - 1)).getD j 0 * moveT t j i) t.m.start.length) * sayT t i k
def rawF (t : Tr) (keep : Int) (k : Nat) : List Rat := (List.range t.m.start.length).map (rawI t keep k)
theorem rfw_raw (t : Tr) (keep : Int) (k : Nat) : rfw t keep k = keptR (rawF t keep k) keep := by
  cases k with
  | zero => rfl
  | succ k => unfold rawF rawI; rw [rfw]; simp
theorem rawF_len (t : Tr) (keep : Int) (k : Nat) : (rawF t keep k).length = t.m.start.length := by simp [rawF]
def rfwN (t : Tr) (keep : Int) (n : Nat) : List (List Rat) := (List.range n).map (rfw t keep)
def RfB (t : Tr) (keep : Int) : Prop := ∀ k i, k < t.o.length → bq ((rawF t keep k).getD i 0) ≤ 300000
theorem RfB.w {t : Tr} {keep : Int} (h : RfB t keep) (k i : Nat) (hk : k < t.o.length) : bq ((rfw t keep k).getD i 0) ≤ 300000 := by rw [rfw_raw]; exact keptR_bq (by decide) (fun i => h k i hk) i
section
variable {m : Md} {o : List Int} {S T : SV} {keep : Int}
end
end Go.E3
