/- P10: a part of the proofs about package model: how the program's functions run, and what they compute, for every input. -/
import Derived.Test.YtpmndikbfalfoaaGreatP9
set_option linter.all false
set_option linter.unusedVariables false
namespace Go.Ear
theorem set_bq {l : List Rat} {x W : Nat} {q : Rat} (h : ∀ i, bq (l.getD i 0) ≤ W) (hq : bq q ≤ W) (i : Nat) : bq ((l.set x q).getD i 0) ≤ W := by
  by_cases e : x = i
  · subst e
    by_cases hx : x < l.length
    · rw [getD_set_is hx]; exact hq
    · have := h x
      rw [List.getD_eq_getElem?_getD, List.getElem?_eq_none (by omega)] at this
      rw [List.getD_eq_getElem?_getD, List.getElem?_eq_none (by rw [List.length_set]; omega)]; exact this
  · rw [getD_set_ne' e]; exact h i
theorem rep_bqW {n W : Nat} {q : Rat} (hW : 1 ≤ W) (hq : bq q ≤ W) (i : Nat) : bq ((List.replicate n q).getD i 0) ≤ W := by
  rw [List.getD_eq_getElem?_getD, List.getElem?_replicate]; split
  · exact hq
  · exact bq0 hW
theorem half_bq : bq halfQ ≤ 100 := by have := bq_quot (a := ((1 : Nat) : Int)) (b := ((2 : Nat) : Int)) (by decide) (by decide) (by decide) (by decide); rwa [bf_frK] at this
theorem each_bq {k : Nat} (h : k ≤ 1000) : bq (eachQ k) ≤ 100 := by have := bq_quot (a := ((1 : Nat) : Int)) (b := ((k : Nat) : Int)) (by decide) (by decide) (by omega) (by omega); rwa [bf_frK] at this
theorem left_W {n k : Nat} (hk : k ≤ 1000) : MdW 100 (leftMd n k) := by
  have z := fun m i => rep_bqW (n := m) (W := 100) (q := 0) (by decide) (bq0 (by decide)) i
  refine mdK_W (fun i => ?_) (fun i j => ?_) (fun i => ?_) (fun i j => ?_)
  · unfold leftS; exact set_bq (z n) (by decide +kernel) i
  · by_cases hi : i < n
    · rw [leftMv, range_getD _ _ hi]; unfold leftRow
      split
      · exact set_bq (set_bq (z n) half_bq) half_bq j
      · exact set_bq (z n) half_bq j
    · rw [List.getD_eq_getElem?_getD (l := leftMv n), List.getElem?_eq_none (by rw [leftMv_len]; omega)]; exact bq0 (by decide)
  · unfold leftF; exact set_bq (z n) half_bq i
  · by_cases hi : i < n
    · rw [← leftY_at hi]; exact rep_bqW (by decide) (each_bq hk) j
    · rw [List.getD_eq_getElem?_getD (l := leftY n k), List.getElem?_eq_none (by rw [leftY_len]; omega)]; exact bq0 (by decide)
def fineB (ms : List Md) (i : Nat) : Bool := decide (0 < ms.length) && (List.range i).all fun j => decide (checkE [ms.getD j md0] [] = 0) && decide (symb (ms.getD j md0) = symb (ms.getD 0 md0))
theorem fineB_zero (ms : List Md) : fineB ms 0 = decide (0 < ms.length) := by unfold fineB; simp
theorem fineB_succ (ms : List Md) (i : Nat) : (fineB ms i && decide (checkE [ms.getD i md0] [] = 0) && decide (symb (ms.getD i md0) = symb (ms.getD 0 md0))) = fineB ms (i + 1) := by
  unfold fineB
  rw [List.range_succ, List.all_append]
  simp only [List.all_cons, List.all_nil, Bool.and_true, Bool.and_assoc]
theorem checkE_one0 {m : Md} (hl : longM m = false) : (checkE [m] [] = 0 ↔ validM m = true) := by
  constructor
  · intro h; exact (checkE_valid h m (List.mem_singleton.2 rfl)).1
  · intro h; exact checkE_nil (fun x hx => by rw [List.mem_singleton.1 hx]; exact h) (fun x hx => by rw [List.mem_singleton.1 hx]; exact hl)
section
variable {ms : List Md} (hl : ∀ x, x < ms.length → longM (ms.getD x md0) = false)
include hl
theorem long_mem : ∀ m ∈ ms, longM m = false := fun m hm => by
  obtain ⟨i, hi, rfl⟩ := List.getElem_of_mem hm
  have := hl i hi
  rwa [List.getD_eq_getElem?_getD, List.getElem?_eq_getElem hi] at this
theorem fine_side (h : fineB ms ms.length = true) : SideOk ms (symb (ms.getD 0 md0)) ∧ beginE ms = 0 := by
  unfold fineB at h
  simp only [Bool.and_eq_true, decide_eq_true_eq, List.all_eq_true, List.mem_range] at h
  have hv : ∀ x, x < ms.length → validM (ms.getD x md0) = true := fun x hx => (checkE_one0 (hl x hx)).1 (h.2 x hx).1
  have hvm : ∀ m ∈ ms, validM m = true := fun m hm => by
    obtain ⟨i, hi, rfl⟩ := List.getElem_of_mem hm
    have := hv i hi
    rwa [List.getD_eq_getElem?_getD, List.getElem?_eq_getElem hi] at this
  refine ⟨⟨h.1, hv, fun x hx => (h.2 x hx).2⟩, begin_ok (checkE_nil hvm (long_mem hl)) (by omega) ?_⟩
  rw [Bool.not_eq_true, List.any_eq_false]
  intro m hm
  obtain ⟨i, hi, rfl⟩ := List.getElem_of_mem hm
  have := (h.2 i hi).2
  rw [List.getD_eq_getElem?_getD (l := ms), List.getElem?_eq_getElem hi] at this
  unfold symOff
  simp only [decide_eq_true_eq, ne_eq, Classical.not_not]
  exact this
theorem fine_not (h : ¬ fineB ms ms.length = true) : beginE ms = 2 := by
  by_cases hv : ∀ m ∈ ms, validM m = true
  · refine begin_arg (checkE_nil hv (long_mem hl)) (Classical.byContradiction fun e => h ?_)
    have e1 : ¬ ms.length = 0 := fun x => e (.inl x)
    have e2 : ¬ ms.any (symOff ms) = true := fun x => e (.inr x)
    unfold fineB
    simp only [Bool.and_eq_true, decide_eq_true_eq, List.all_eq_true, List.mem_range]
    refine ⟨by omega, fun x hx => ⟨(checkE_one0 (hl x hx)).2 (hv _ (getD_mem' ms md0 hx)), ?_⟩⟩
    rw [Bool.not_eq_true, List.any_eq_false] at e2
    have := e2 _ (getD_mem' ms md0 hx)
    unfold symOff at this
    simp only [decide_eq_true_eq, ne_eq, Classical.not_not] at this
    exact this
  · have ⟨m, hm⟩ := Classical.not_forall.1 hv
    have ⟨hm, hn⟩ := Classical.not_imp.1 hm
    have h2 := checkE_nil_bad (long_mem hl) hm hn
    rw [begin_err (by rw [h2]; decide), h2]
end
end Go.Ear
