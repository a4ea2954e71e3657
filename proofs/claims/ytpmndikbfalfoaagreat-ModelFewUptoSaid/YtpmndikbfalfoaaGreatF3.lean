/- F3: a part of the proofs about package model: how the program's functions run, and what they compute, for every input. -/
import Derived.Test.YtpmndikbfalfoaaGreatF2
set_option linter.all false
set_option linter.unusedVariables false
set_option maxRecDepth 20000
namespace Go.E3
open Go Go.Ear Go.Proofs
def kT (t : Tr) (keep : Int) : Rat := rTot t (rfw t keep)
def kS (t : Tr) (keep : Int) (i : Nat) : Rat := (rfw t keep 0).getD i 0 * (bwP t keep (t.o.length - 1)).getD i 0 / kT t keep
def kE (t : Tr) (keep : Int) (i : Nat) : Rat := (rfw t keep (t.o.length - 1)).getD i 0 * (t.m.fin.getD i fr0).rat / kT t keep
def kY (t : Tr) (keep : Int) (i k : Nat) : Rat := (rfw t keep k).getD i 0 * (bwP t keep (t.o.length - 1 - k)).getD i 0 / kT t keep
def kW (t : Tr) (keep : Int) (i k j : Nat) : Rat := (rfw t keep k).getD i 0 * moveT t i j * sayT t j (k + 1) * (bwP t keep (t.o.length - 1 - (k + 1))).getD j 0
def kM (t : Tr) (keep : Int) (i k j : Nat) : Rat := kW t keep i k j / kT t keep
def ktS (t : Tr) (keep : Int) : List Rat := (List.range t.m.start.length).map (kS t keep)
def ktE (t : Tr) (keep : Int) : List Rat := (List.range t.m.start.length).map (kE t keep)
def kSay (t : Tr) (keep : Int) (i : Nat) : Nat → List Rat
  | 0 => List.replicate (symb t.m) 0
  | k + 1 => (kSay t keep i k).set (t.o.getD k 0).toNat ((kSay t keep i k).getD (t.o.getD k 0).toNat 0 + kY t keep i k)
def kMv (t : Tr) (keep : Int) (i : Nat) : Nat → List Rat
  | 0 => List.replicate t.m.start.length 0
  | k + 1 => (List.range t.m.start.length).map fun j => (kMv t keep i k).getD j 0 + kM t keep i k j
def ktM (t : Tr) (keep : Int) : List (List Rat) := (List.range t.m.start.length).map fun i => kMv t keep i (t.o.length - 1)
def ktY (t : Tr) (keep : Int) : List (List Rat) := (List.range t.m.start.length).map fun i => kSay t keep i t.o.length
def ktT (t : Tr) (keep : Int) : Go.Ear.Ct := ⟨ktS t keep, ktM t keep, ktE t keep, ktY t keep, 0, 0, kT t keep⟩
theorem kSay_len (t : Tr) (keep : Int) (i : Nat) : ∀ k, (kSay t keep i k).length = symb t.m
  | 0 => by simp [kSay]
  | k + 1 => by rw [kSay, List.length_set]; exact kSay_len t keep i k
theorem kMv_len (t : Tr) (keep : Int) (i k : Nat) : (kMv t keep i k).length = t.m.start.length := by cases k <;> simp [kMv]
theorem ktS_len (t : Tr) (keep : Int) : (ktS t keep).length = t.m.start.length := by simp [ktS]
theorem ktE_len (t : Tr) (keep : Int) : (ktE t keep).length = t.m.start.length := by simp [ktE]
theorem ktM_len (t : Tr) (keep : Int) : (ktM t keep).length = t.m.start.length := by simp [ktM]
theorem ktY_len (t : Tr) (keep : Int) : (ktY t keep).length = t.m.start.length := by simp [ktY]
theorem kMv_at {t : Tr} {keep : Int} {i k j : Nat} (hj : j < t.m.start.length) : (kMv t keep i k).getD j 0 + kM t keep i k j = (kMv t keep i (k + 1)).getD j 0 := by rw [kMv, range_getD _ _ hj]
structure KnB (t : Tr) (keep : Int) : Prop where
  l : bq (kT t keep) ≤ 60000000
  y : ∀ i k x, k ≤ t.o.length → bq ((kSay t keep i k).getD x 0) ≤ 60000000
  m : ∀ i k x, k ≤ t.o.length → bq ((kMv t keep i k).getD x 0) ≤ 60000000
  pY : ∀ i k, k < t.o.length → bq (kY t keep i k) ≤ 60000000
  pM : ∀ i k j, k < t.o.length → bq (kM t keep i k j) ≤ 60000000
theorem kT_def (t : Tr) (keep : Int) : likT t (rfwN t keep t.o.length) = kT t keep := by
  unfold likT kT rTot
  rw [rfwN_len]
  by_cases h : t.o.length = 0
  · rw [if_pos h, if_pos h]
  · rw [if_neg h, if_neg h, rfwN_at (by omega)]
theorem kM_def (t : Tr) (keep : Int) (i k j : Nat) : kW t keep i k j / kT t keep = kM t keep i k j := rfl
theorem kSay_def (t : Tr) (keep : Int) (i k : Nat) : (kSay t keep i k).set (t.o.getD k 0).toNat ((kSay t keep i k).getD (t.o.getD k 0).toNat 0 + kY t keep i k) = kSay t keep i (k + 1) := rfl
theorem ktM_def (t : Tr) (keep : Int) : (List.range t.m.start.length).map (fun i => (kMv t keep i (t.o.length - 1)).map frK) = (ktM t keep).map (·.map frK) := by unfold ktM; rw [List.map_map]; rfl
theorem ktY_def (t : Tr) (keep : Int) : (List.range t.m.start.length).map (fun i => (kSay t keep i t.o.length).map frK) = (ktY t keep).map (·.map frK) := by unfold ktY; rw [List.map_map]; rfl
theorem kMv_zero (t : Tr) (keep : Int) (i : Nat) : kMv t keep i 0 = List.replicate t.m.start.length 0 := rfl
theorem kSay_zero (t : Tr) (keep : Int) (i : Nat) : kSay t keep i 0 = List.replicate (symb t.m) 0 := rfl
theorem ktS_def (t : Tr) (keep : Int) : ktS t keep = (List.range t.m.start.length).map (kS t keep) := rfl
theorem ktE_def (t : Tr) (keep : Int) : ktE t keep = (List.range t.m.start.length).map (kE t keep) := rfl
theorem kS_eq {t : Tr} {keep : Int} {i : Nat} (h : 0 < t.o.length) : ((rfwN t keep t.o.length).getD 0 []).getD i 0 * ((bwPN t keep).getD 0 []).getD i 0 / kT t keep = kS t keep i := by rw [rfwN_at h, bwPN_at h]; rfl
theorem kE_eq {t : Tr} {keep : Int} {i : Nat} (h : 0 < t.o.length) : ((rfwN t keep t.o.length).getD (t.o.length - 1) []).getD i 0 * (t.m.fin.getD i fr0).rat / kT t keep = kE t keep i := by rw [rfwN_at (by omega)]; rfl
theorem kY_eq {t : Tr} {keep : Int} {i k : Nat} (h : k < t.o.length) : ((rfwN t keep t.o.length).getD k []).getD i 0 * ((bwPN t keep).getD k []).getD i 0 / kT t keep = kY t keep i k := by rw [rfwN_at h, bwPN_at h]; rfl
theorem kW_eq {t : Tr} {keep : Int} {i k j : Nat} (h : k + 1 < t.o.length) : prodF [frK (((rfwN t keep t.o.length).getD k []).getD i 0), (t.m.move.getD i []).getD j fr0, (t.m.say.getD j []).getD (t.o.getD (k + 1) 0).toNat fr0, frK (((bwPN t keep).getD (k + 1) []).getD j 0)] = kW t keep i k j := by
  rw [prodF4, frK_rat, frK_rat, rfwN_at (by omega), bwPN_at h]; rfl
theorem kW_bd {t : Tr} {keep : Int} (tw : TW t) (fb : RfB t keep) (bb : BpB t keep) (i j : Nat) {k : Nat} (h : k + 1 < t.o.length) : bq (kW t keep i k j) ≤ 1000000 := by
  unfold kW
  have := bq_mul ((rfw t keep k).getD i 0 * moveT t i j * sayT t j (k + 1)) ((bwP t keep (t.o.length - 1 - (k + 1))).getD j 0)
  have := bq_mul ((rfw t keep k).getD i 0 * moveT t i j) (sayT t j (k + 1))
  have := bq_mul ((rfw t keep k).getD i 0) (moveT t i j)
  have := fb.w k i (by omega); have := bb (t.o.length - 1 - (k + 1)) j (by omega); have := tw.mv i j; have := tw.sy j (k + 1)
  omega
theorem RfB.all {t : Tr} {keep : Int} (b : RfB t keep) (k i : Nat) : bq (((rfwN t keep t.o.length).getD k []).getD i 0) ≤ 300000 := by
  by_cases h : k < t.o.length
  · rw [rfwN_at h]; exact b.w k i h
  · have e : (rfwN t keep t.o.length).getD k [] = [] := by rw [List.getD_eq_getElem?_getD, List.getElem?_eq_none (by rw [rfwN_len]; omega)]; rfl
    have := bq_zero
    rw [e, show ([] : List Rat).getD i 0 = 0 from rfl]; omega
theorem BpB.all {t : Tr} {keep : Int} (b : BpB t keep) (k i : Nat) : bq (((bwPN t keep).getD k []).getD i 0) ≤ 300000 := by
  by_cases h : k < t.o.length
  · rw [bwPN_at h]; exact b _ i (by omega)
  · have e : (bwPN t keep).getD k [] = [] := by rw [List.getD_eq_getElem?_getD, List.getElem?_eq_none (by rw [bwPN_len]; omega)]; rfl
    have := bq_zero
    rw [e, show ([] : List Rat).getD i 0 = 0 from rfl]; omega
theorem rfwRow_len {t : Tr} {keep : Int} {k : Nat} (h : k < t.o.length) : ((rfwN t keep t.o.length).getD k []).length = t.m.start.length := by rw [rfwN_at h]; exact rfw_len t keep k
theorem bwPRow_len {t : Tr} {keep : Int} {k : Nat} (h : k < t.o.length) : ((bwPN t keep).getD k []).length = t.m.start.length := by rw [bwPN_at h]; exact bwP_len t keep _
theorem likK_len (t : Tr) (keep : Int) : (rfwN t keep t.o.length).length = 0 ∨ ((rfwN t keep t.o.length).getD ((rfwN t keep t.o.length).length - 1) []).length = t.m.start.length := by
  rw [rfwN_len]
  by_cases h : t.o.length = 0
  · exact .inl h
  · right; rw [rfwN_at (by omega), rfw_len]
theorem likK_bd {t : Tr} {keep : Int} (fb : RfB t keep) (mb : MdB 100000 t.m) (i : Nat) : bq (((rfwN t keep t.o.length).getD ((rfwN t keep t.o.length).length - 1) []).getD i 0) + bf (t.m.fin.getD i fr0) ≤ 400001 := by
  have := mb.fb i
  have := fb.all ((rfwN t keep t.o.length).length - 1) i
  omega
theorem kT_pos {t : Tr} {keep : Int} (h : kT t keep ≠ 0) : 0 < t.o.length := by
  cases hn : t.o.length with
  | zero => exact absurd (by unfold kT rTot; rw [if_pos hn]) h
  | succ n => omega
end Go.E3
