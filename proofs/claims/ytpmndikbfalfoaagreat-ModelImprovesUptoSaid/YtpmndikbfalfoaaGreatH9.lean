/- H9: a part of the proofs about package model: how the program's functions run, and what they compute, for every input. -/
import Derived.Test.YtpmndikbfalfoaaGreatH8
set_option linter.all false
set_option linter.unusedVariables false
set_option maxRecDepth 20000
set_option maxHeartbeats 8000000
set_option synthInstance.maxSize 1000
namespace Go.E3
open Go Go.Ear Go.Proofs
section
variable {m : Md} {o : List Int} {S T : SV}
theorem RfB.of {t : Tr} {keep : Int} {S W N : Nat} (h : MdW W t.m) (hs : t.m.start.length ≤ S) (hW : 1 ≤ W) (hS : 1 ≤ S) (hn : t.o.length ≤ N + 1) (hb : fB S W N ≤ 300000) : RfB t keep := by
  have key : ∀ k i, bq ((rawF t keep k).getD i 0) ≤ fB S W k := by
    intro k
    induction k with
    | zero =>
      intro i
      by_cases hi : i < t.m.start.length
      · rw [rawF, range_getD _ _ hi, rawI, if_pos rfl]
        have := bq_mul (t.m.start.getD i fr0).rat (sayT t i 0); have := h.st i; have h2 : bq (sayT t i 0) ≤ W := h.sy i (t.o.getD 0 0).toNat
        show _ ≤ 2 * W; omega
      · rw [out_bq (by rw [rawF_len]; omega)]; show 1 ≤ 2 * W; omega
    | succ k ih =>
      intro i
      by_cases hi : i < t.m.start.length
      · rw [rawF, range_getD _ _ hi, rawI, if_neg (by omega)]
        have h1 := bq_mul (sumTo (fun j => (rfw t keep (k + 1 - 1)).getD j 0 * moveT t j i) t.m.start.length) (sayT t i (k + 1))
        have h2 : bq (sayT t i (k + 1)) ≤ W := h.sy i (t.o.getD (k + 1) 0).toNat
        have hB : 1 ≤ fB S W k := by cases k <;> (unfold fB; omega)
        have h3 := bq_sumTo (q := fun j => (rfw t keep (k + 1 - 1)).getD j 0 * moveT t j i) (B := fB S W k + W) t.m.start.length fun j _ => by
          have h5 : bq ((rfw t keep k).getD j 0) ≤ fB S W k := by rw [rfw_raw]; exact keptR_bq hB ih j
          have h6 : bq (moveT t j i) ≤ W := h.mv j i
          exact Nat.le_trans (bq_mul _ _) (Nat.add_le_add h5 h6)
        have h4 := Nat.mul_le_mul_right (fB S W k + W + 1) hs
        show _ ≤ W + (1 + S * (fB S W k + W + 1))
        omega
      · rw [out_bq (by rw [rawF_len]; omega)]; show 1 ≤ W + _; omega
  exact fun k i hk => Nat.le_trans (key k i) (Nat.le_trans (fB_mono hS (by omega)) hb)
end
end Go.E3
