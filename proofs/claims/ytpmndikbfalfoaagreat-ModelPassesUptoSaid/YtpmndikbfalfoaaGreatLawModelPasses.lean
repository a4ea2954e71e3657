/- LawModelPasses: a part of the proofs about package model: how the program's functions run, and what they compute, for every input. -/
import Derived.Test.YtpmndikbfalfoaaGreatH9
set_option linter.all false
set_option linter.unusedVariables false
set_option maxRecDepth 20000
set_option maxHeartbeats 8000000
set_option synthInstance.maxSize 1000
namespace Go.E3
open Go Go.Ear Go.Proofs
theorem sameL_self (a : List Fr) : sameL a a = true := all2_refl sameF_self
theorem sameR_self (a : List (List Fr)) : sameR a a = true := all2_refl sameL_self
theorem wts_K {l : List Rat} {B : Nat} (h : ∀ i, bq (l.getD i 0) ≤ B) : wts (l.map frK) ≤ (B + 1) * l.length := by
  have := wts_leB (B := B) (l := l.map frK) fun f hf => by
    obtain ⟨q, hq, rfl⟩ := List.mem_map.1 hf
    obtain ⟨i, hi, rfl⟩ := List.getElem_of_mem hq
    have := h i
    rw [List.getD_eq_getElem?_getD, List.getElem?_eq_getElem hi] at this
    rw [bf_frK]; exact this
  rw [List.length_map] at this; exact this
theorem wts_KR {l : List (List Rat)} {B n K : Nat} (h : ∀ k i, bq ((l.getD k []).getD i 0) ≤ B) (hn : ∀ k, (l.getD k []).length ≤ n) (hK : (B + 1) * n ≤ K) : ∀ r ∈ l.map (·.map frK), wts r ≤ K := fun r hr => by
  obtain ⟨q, hq, rfl⟩ := List.mem_map.1 hr
  obtain ⟨k, hk, rfl⟩ := List.getElem_of_mem hq
  have h1 := h k; have h2 := hn k
  rw [List.getD_eq_getElem?_getD, List.getElem?_eq_getElem hk] at h1 h2
  exact Nat.le_trans (wts_K h1) (Nat.le_trans (Nat.mul_le_mul_left _ h2) hK)
theorem fwdAll_row (t : Tr) (k : Nat) : ((fwdAll t).getD k []).length ≤ t.m.start.length := by
  by_cases h : k < t.o.length
  · rw [fwdRow_len h]; exact Nat.le_refl _
  · rw [List.getD_eq_getElem?_getD, List.getElem?_eq_none (by rw [fwdAll_len]; omega)]; exact Nat.zero_le _
theorem bwdAll_row (t : Tr) (k : Nat) : ((bwdAll t).getD k []).length ≤ t.m.start.length := by
  by_cases h : k < t.o.length
  · rw [bwdRow_len h]; exact Nat.le_refl _
  · rw [List.getD_eq_getElem?_getD, List.getElem?_eq_none (by rw [bwdAll_len]; omega)]; exact Nat.zero_le _
theorem modelPasses_c {m : Md} {o : List Int} (up : UpK m) (uo : o.length ≤ 1048576 ∧ I64s o) : Ct Tryz.prog 7 [mv m, lv rI o] True (bv true) := by
  refine (ctI Tryz.call7 Tryz.func7 Tryz.ntmps7 rfl Tryz.results7 rfl [] fun h0 w0 _ => ?_)
  have ft := up.t
  have hb := up.b
  have hw := up.w
  have ho := uo.1
  repeat first | refine nx ?_ | intro _
  refine gIf (fun c => ?_) fun c => ?_
  · repeat first | refine nx ?_ | intro _
    trivial
  obtain ⟨g, hol, hE⟩ := fair_all' ft (Classical.not_not.1 c)
  clear c
  have hmB := g.mB (K := 100000)
  have tk := checkE_TOk hE
  have hfw : FwB ⟨m, o⟩ := g.fw 7 hol (by decide) (by decide)
  have hbw : BwB ⟨m, o⟩ := g.bw 7 hol (by decide) (by decide)
  have f1 : o.length ≤ 1099511627776 ∧ MdB 10000000 m ∧ (checkE [m] [o] = 0 → MdB 100000 m ∧ FwB ⟨m, o⟩) := ⟨by omega, hw, fun _ => ⟨hmB, hfw⟩⟩
  have f2 : o.length ≤ 1099511627776 ∧ MdB 10000000 m ∧ (checkE [m] [o] = 0 → MdB 100000 m ∧ BwB ⟨m, o⟩) := ⟨by omega, hw, fun _ => ⟨hmB, hbw⟩⟩
  have hw100 : MdW 100 m := MdW.up g.w (by decide)
  have hrf : RfB ⟨m, o⟩ (m.start.length : Int) := RfB.of (t := ⟨m, o⟩) g.w g.s (by decide) (by decide) (N := 7) hol (by decide)
  have hr : rfwN ⟨m, o⟩ (m.start.length : Int) o.length = fwdAll ⟨m, o⟩ := rfwN_fwd (t := ⟨m, o⟩) (Int.le_refl _)
  have e1 := likM_lk hE
  have e2 : fwdM m o = fwdAll ⟨m, o⟩ := if_pos hE
  have e3 : bwdM m o = bwdAll ⟨m, o⟩ := if_pos hE
  have hs := g.s
  have hlq : bq (lk ⟨m, o⟩) ≤ 1000000 := Nat.le_trans (g.lk 7 hol (by decide)) (by decide)
  have hlq2 := hlq
  rw [← e1] at hlq2
  have w1 : ((fwdAll ⟨m, o⟩).map (·.map frK)).length ≤ 1048576 ∧ (∀ r ∈ (fwdAll ⟨m, o⟩).map (·.map frK), wts r ≤ 900000000) ∧ ∀ r ∈ (fwdAll ⟨m, o⟩).map (·.map frK), wts r ≤ 900000000 := by
    have h := wts_KR (K := 900000000) (B := 300000) (n := 4) hfw.all (fun k => Nat.le_trans (fwdAll_row _ k) hs) (by decide)
    exact ⟨by rw [List.length_map, fwdAll_len]; exact ho, h, h⟩
  have w2 : ((bwdAll ⟨m, o⟩).map (·.map frK)).length ≤ 1048576 ∧ (∀ r ∈ (bwdAll ⟨m, o⟩).map (·.map frK), wts r ≤ 900000000) ∧ ∀ r ∈ (bwdAll ⟨m, o⟩).map (·.map frK), wts r ≤ 900000000 := by
    have h := wts_KR (K := 900000000) (B := 300000) (n := 4) hbw.all (fun k => Nat.le_trans (bwdAll_row _ k) hs) (by decide)
    exact ⟨by rw [List.length_map, bwdAll_len]; exact ho, h, h⟩
  have w1' : ((fwdAll ⟨m, o⟩).map (·.map frK)).length ≤ 1048576 ∧ (∀ r ∈ (fwdAll ⟨m, o⟩).map (·.map frK), wts r ≤ 900000000) ∧ ∀ r ∈ (rfwN ⟨m, o⟩ (m.start.length : Int) o.length).map (·.map frK), wts r ≤ 900000000 := by rw [hr]; exact w1
  rw [← e2] at w1'
  rw [← e3] at w2
  have w2' : ((bwdM m o).map (·.map frK)).length ≤ 1048576 ∧ (∀ r ∈ (bwdM m o).map (·.map frK), wts r ≤ 900000000) ∧ ∀ r ∈ (bwdAll ⟨m, o⟩).map (·.map frK), wts r ≤ 900000000 := by rw [← e3]; exact w2
  repeat first | refine nx ?_ | intro _
  rw [hE, e1, e2, e3, hr, sameR_self, sameR_self, sameF_self]; rfl
end Go.E3
