/- T17: a part of the proofs about package model: how the program's functions run, and what they compute, for every input. -/
import Derived.Test.YtpmndikbfalfoaaGreatTB
set_option linter.all false
set_option linter.unusedVariables false
set_option maxRecDepth 20000
namespace Go.E3
open Go Go.Ear Go.Proofs
theorem RwM.mdb {R : Nat} {m : Md} (r : RwM R m) : MdB R m := by
  have hl := r.l
  refine ⟨r.s, fun l hlm => ?_, r.f, fun l hlm => ?_⟩
  · obtain ⟨i, hi, rfl⟩ := List.getElem_of_mem hlm
    have := (r.mv i (by omega)).2
    rw [List.getD_eq_getElem?_getD, List.getElem?_eq_getElem hi] at this
    exact this
  · obtain ⟨i, hi, rfl⟩ := List.getElem_of_mem hlm
    have := (r.y i (by omega)).2
    rw [List.getD_eq_getElem?_getD, List.getElem?_eq_getElem hi] at this
    exact this
theorem RwM.weak {K K' : Nat} {m : Md} (r : RwM K m) (h : K ≤ K') : RwM K' m := ⟨r.n, r.l, Nat.le_trans r.s h, Nat.le_trans r.f h, fun i hi => ⟨(r.mv i hi).1, Nat.le_trans (r.mv i hi).2 h⟩, fun i hi => ⟨(r.y i hi).1, Nat.le_trans (r.y i hi).2 h⟩⟩
theorem check_parts {m : Md} {data : List (List Int)} (hc : checkE [m] data = 0) : data.length ≤ 200 ∧ data.any longO = false ∧ data.any (heardM [m]) = false := by
  unfold checkE at hc
  split at hc
  · cases hc
  · rename_i c1
    split at hc
    · cases hc
    · split at hc
      · cases hc
      · rename_i c3
        simp only [Bool.or_eq_true, not_or, Bool.not_eq_true, decide_eq_true_eq, decide_eq_false_iff_not] at c1
        exact ⟨by omega, c1.2, by simpa using c3⟩
theorem check_next {m m' : Md} {data : List (List Int)} (hc : checkE [m] data = 0) (v : validM m' = true) (l : longM m' = false) (sy : symb m' = symb m) : checkE [m'] data = 0 := by
  obtain ⟨h1, h2, h3⟩ := check_parts hc
  refine check_good (by rw [l]; decide) (by omega) h2 v ?_
  rw [← h3]
  congr 1
  funext o
  rw [heardM1, heardM1, sy]
theorem Rec.tok {m : Md} {a b c W R : Nat} (r : Rec m a b c W R) {data : List (List Int)} (hc : checkE [m] data = 0) (k : Nat) (hk : k < data.length) : TOk (Go.Ear.trK m data k) := checkE_TOk (checkE_one hc (getD_mem' data [] hk))
theorem ch_n {n : Nat} {s : List Rat} {l y : Nat → List Rat} (h : s.length = n) : (chM n s l y).start.length = n := by
  show (List.map frK s).length = n
  rw [List.length_map, h]
end Go.E3
