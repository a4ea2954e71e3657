/- F0: a part of the proofs about package model: how the program's functions run, and what they compute, for every input. -/
import Derived.Test.YtpmndikbfalfoaaGreatH18
set_option linter.all false
set_option linter.unusedVariables false
set_option maxRecDepth 20000
namespace Go.E3
open Go Go.Ear Go.Proofs
def kpB (t : Tr) (keep : Int) (k i : Nat) : Bool := decide ((befN (rawF t keep k) i (rawF t keep k).length : Int) < keep)
def mskR (t : Tr) (keep : Int) (k : Nat) : List Bool := (List.range t.m.start.length).map (kpB t keep k)
def mskL (t : Tr) (keep : Int) : List (List Bool) := (List.range t.o.length).map (mskR t keep)
theorem mskR_len (t : Tr) (keep : Int) (k : Nat) : (mskR t keep k).length = t.m.start.length := by simp [mskR]
theorem mskL_len (t : Tr) (keep : Int) : (mskL t keep).length = t.o.length := by simp [mskL]
theorem mskL_row {t : Tr} {keep : Int} {k : Nat} (hk : k < t.o.length) : (mskL t keep).getD k [] = mskR t keep k := range_getD _ _ hk
theorem mskL_at {t : Tr} {keep : Int} {k i : Nat} (hk : k < t.o.length) (hi : i < t.m.start.length) : ((mskL t keep).getD k []).getD i false = kpB t keep k i := by rw [mskL_row hk]; exact range_getD _ _ hi
theorem rfw_at {t : Tr} {keep : Int} {k i : Nat} (hi : i < t.m.start.length) : (rfw t keep k).getD i 0 = if kpB t keep k i = true then rawI t keep k i else 0 := by
  rw [rfw_raw, keptR, range_getD _ _ (by rw [rawF_len]; exact hi)]
  have e : (rawF t keep k).getD i 0 = rawI t keep k i := range_getD _ _ hi
  rw [e]
  unfold kpB
  simp only [decide_eq_true_eq]
def bwP (t : Tr) (keep : Int) : Nat → List Rat
  | 0 => (List.range t.m.start.length).map fun i => if kpB t keep (t.o.length - 1) i = true then (t.m.fin.getD i fr0).rat else 0
  | d + 1 => (List.range t.m.start.length).map fun i => if kpB t keep (t.o.length - 1 - (d + 1)) i = true then sumTo (fun j => moveT t i j * sayT t j (t.o.length - 1 - d) * (bwP t keep d).getD j 0) t.m.start.length else 0
theorem bwP_len (t : Tr) (keep : Int) (k : Nat) : (bwP t keep k).length = t.m.start.length := by cases k <;> simp [bwP]
theorem bwP_z {t : Tr} {keep : Int} {i k : Nat} (h0 : k = 0) (hi : i < t.m.start.length) (h : kpB t keep (t.o.length - 1 - k) i = true) : (t.m.fin.getD i fr0).rat = (bwP t keep k).getD i 0 := by
  subst h0; rw [Nat.sub_zero] at h; rw [bwP, range_getD _ _ hi, if_pos h]
theorem bwP_s {t : Tr} {keep : Int} {i k : Nat} (h0 : 1 ≤ k) (hk : k < t.o.length) (hi : i < t.m.start.length) (h : kpB t keep (t.o.length - 1 - k) i = true) : sumTo (fun j => moveT t i j * sayT t j (t.o.length - 1 - k + 1) * (bwP t keep (k - 1)).getD j 0) t.m.start.length = (bwP t keep k).getD i 0 := by
  obtain ⟨j, rfl⟩ : ∃ j, k = j + 1 := ⟨k - 1, by omega⟩
  rw [bwP, range_getD _ _ hi, if_pos h, show t.o.length - 1 - (j + 1) + 1 = t.o.length - 1 - j by omega]; rfl
theorem bwP_n {t : Tr} {keep : Int} {i k : Nat} (hi : i < t.m.start.length) (h : ¬ kpB t keep (t.o.length - 1 - k) i = true) : (bwP t keep k).getD i 0 = 0 := by
  cases k with
  | zero => rw [Nat.sub_zero] at h; rw [bwP, range_getD _ _ hi, if_neg h]
  | succ k => rw [bwP, range_getD _ _ hi, if_neg h]
theorem bwP_bq {t : Tr} {keep : Int} {S W : Nat} (h : MdW W t.m) (hs : t.m.start.length ≤ S) (hW : 1 ≤ W) : ∀ k i, bq ((bwP t keep k).getD i 0) ≤ bB S W k
  | 0, i => by
    by_cases hi : i < t.m.start.length
    · rw [bwP, range_getD _ _ hi]
      split
      · exact Nat.le_trans (h.fi i) (by unfold bB; omega)
      · rw [bq_zero]; unfold bB; omega
    · rw [out_bq (by rw [bwP_len]; omega)]; unfold bB; omega
  | k + 1, i => by
    have hB : 1 ≤ bB S W k := by cases k <;> (unfold bB; omega)
    by_cases hi : i < t.m.start.length
    · rw [bwP, range_getD _ _ hi]
      split
      · have h3 := bq_sumTo (q := fun j => moveT t i j * sayT t j (t.o.length - 1 - k) * (bwP t keep k).getD j 0) (B := W + W + bB S W k) t.m.start.length fun j _ => by
          have h5 := bwP_bq (keep := keep) h hs hW k j
          have h6 : bq (moveT t i j) ≤ W := h.mv i j
          have h7 : bq (sayT t j (t.o.length - 1 - k)) ≤ W := h.sy j _
          exact Nat.le_trans (bq_mul _ _) (Nat.add_le_add (Nat.le_trans (bq_mul _ _) (Nat.add_le_add h6 h7)) h5)
        have h4 := Nat.mul_le_mul_right (W + W + bB S W k + 1) hs
        refine Nat.le_trans h3 ?_
        rw [bB, show 2 * W + bB S W k + 1 = W + W + bB S W k + 1 by omega]
        omega
      · rw [bq_zero]; unfold bB; omega
    · rw [out_bq (by rw [bwP_len]; omega)]; unfold bB; omega
def BpB (t : Tr) (keep : Int) : Prop := ∀ k i, k < t.o.length → bq ((bwP t keep k).getD i 0) ≤ 300000
def bwPN (t : Tr) (keep : Int) : List (List Rat) := (List.range t.o.length).map fun p => bwP t keep (t.o.length - 1 - p)
theorem bwPN_len (t : Tr) (keep : Int) : (bwPN t keep).length = t.o.length := by simp [bwPN]
theorem bwPN_at {t : Tr} {keep : Int} {k : Nat} (h : k < t.o.length) : (bwPN t keep).getD k [] = bwP t keep (t.o.length - 1 - k) := range_getD (fun p => bwP t keep (t.o.length - 1 - p)) _ h
theorem PI.skip {N S p : Nat} {before : Nat → Prop} {f : Nat → List Rat} {ls : List (List Fr)} {i : Nat} (h : PI N S p before f ls i) (hi : i < S) (hf : (f p).length = S) (hx : (f p).getD i 0 = 0) : PI N S p before f ls (i + 1) :=
  ⟨hi, h.l, h.b, by rw [h.r]; exact (rowAt_skip (by rw [List.length_map, hf]) hi (by rw [getD_K, hx, frK_zero])).symm, h.t⟩
end Go.E3
