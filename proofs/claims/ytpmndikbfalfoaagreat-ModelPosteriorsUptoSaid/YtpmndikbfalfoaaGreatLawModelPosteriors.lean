/- LawModelPosteriors: a part of the proofs about package model: how the program's functions run, and what they compute, for every input. -/
import Derived.Test.YtpmndikbfalfoaaGreatQ2
set_option linter.all false
set_option linter.unusedVariables false
set_option maxRecDepth 20000
set_option maxHeartbeats 16000000
set_option synthInstance.maxSize 1000
namespace Go.E3
open Go Go.Ear Go.Proofs
theorem pR_self (a : List (List Fr)) : sameR a a = true := all2_refl fun r => all2_refl sameF_self
theorem wts_Kp {l : List Rat} {B : Nat} (h : ∀ i, bq (l.getD i 0) ≤ B) : wts (l.map frK) ≤ (B + 1) * l.length := by
  have := wts_leB (B := B) (l := l.map frK) fun f hf => by
    obtain ⟨q, hq, rfl⟩ := List.mem_map.1 hf
    obtain ⟨i, hi, rfl⟩ := List.getElem_of_mem hq
    have := h i
    rw [List.getD_eq_getElem?_getD, List.getElem?_eq_getElem hi] at this
    rw [bf_frK]; exact this
  rw [List.length_map] at this; exact this
theorem modelPosteriors_c {m : Md} {o : List Int} (up : UpK m) (uo : o.length ≤ 1048576 ∧ I64s o) : Ct Tryz.prog 10 [mv m, lv rI o] True (bv true) := by
  refine (ctI Tryz.call10 Tryz.func10 Tryz.ntmps10 rfl Tryz.results10 rfl [] fun h0 w0 _ => ?_)
  have ft := up.t
  have hb := up.b
  have hw := up.w
  have ho := uo.1
  repeat first | refine nx ?_ | intro _
  refine gIf (fun c => ?_) fun c => ?_
  · repeat first | refine nx ?_ | intro _
    trivial
  obtain ⟨g, hol, hE⟩ := fair_all' ft (Classical.not_not.1 c)
  clear c
  have hmB := g.mB (K := 100000)
  have tk := checkE_TOk hE
  have nn := Nn.of (checkE_valid hE m (List.mem_singleton.2 rfl)).1
  have hfw : FwB ⟨m, o⟩ := g.fw 6 hol (by decide) (by decide)
  have hbw : BwB ⟨m, o⟩ := g.bw 6 hol (by decide) (by decide)
  have hw100 : MdW 100 m := MdW.up g.w (by decide)
  have hrf : RfB ⟨m, o⟩ (m.start.length : Int) := RfB.of (t := ⟨m, o⟩) g.w g.s (by decide) (by decide) (N := 6) hol (by decide)
  have hlq : bq (lk ⟨m, o⟩) ≤ 1000000 := Nat.le_trans (g.lk 6 hol (by decide)) (by decide)
  have f1 : (o.length ≤ 1099511627776 ∧ MdB 10000000 m) ∧ (checkE [m] [o] = 0 → MdB 100000 m ∧ FwB ⟨m, o⟩ ∧ BwB ⟨m, o⟩ ∧ bq (lk ⟨m, o⟩) ≤ 60000000) := ⟨⟨by omega, hw⟩, fun _ => ⟨hmB, hfw, hbw, by omega⟩⟩
  have hpq : ∀ k, k < o.length → wts ((postR ⟨m, o⟩ k).map frK) ≤ 100000000 := fun k hk => by
    have h1 : ∀ i, bq ((postR ⟨m, o⟩ k).getD i 0) ≤ 1600000 := fun i => by
      by_cases hi : i < m.start.length
      · rw [postR, range_getD _ _ hi]
        have e1 := hfw k i hk
        have e2 := hbw (o.length - 1 - k) i (by show _ < o.length; omega)
        have e3 := bq_mul ((fwd ⟨m, o⟩ k).getD i 0) ((bwd ⟨m, o⟩ (o.length - 1 - k)).getD i 0)
        have e4 := bq_div ((fwd ⟨m, o⟩ k).getD i 0 * (bwd ⟨m, o⟩ (o.length - 1 - k)).getD i 0) (lk ⟨m, o⟩)
        unfold pY
        dsimp only
        omega
      · rw [List.getD_eq_getElem?_getD, List.getElem?_eq_none (by rw [postR_len]; dsimp only; omega)]
        have : bq (0 : Rat) = 1 := bq_zero
        show bq (0 : Rat) ≤ _; omega
    have h2 := wts_Kp h1
    rw [postR_len] at h2
    have h3 := g.s
    have h4 : (1600000 + 1) * m.start.length ≤ (1600000 + 1) * 4 := Nat.mul_le_mul_left _ h3
    dsimp only at h2
    omega
  have hpl := postT_len ⟨m, o⟩
  dsimp only at hpl
  have hwr : ∀ r ∈ (postT ⟨m, o⟩).map (·.map frK), wts r ≤ 100000000 := fun r hr => by
    obtain ⟨r0, h0, rfl⟩ := List.mem_map.1 hr
    unfold postT at h0
    obtain ⟨k, hk, rfl⟩ := List.mem_map.1 h0
    exact hpq k (List.mem_range.1 hk)
  repeat first | refine nx ?_ | intro _
  by_cases hz : lk ⟨m, o⟩ = 0
  · have e1 : postE m o = 7 := by unfold postE; rw [if_neg (fun x => x hE), if_pos hz]
    have e2 : postM m o = [] := if_neg (by rw [e1]; decide)
    rw [e1, e2]
    simp only [decide_eq_true hz, cond_true]
    refine gIf (fun c => ?_) fun c => ?_
    · repeat first | refine nx ?_ | intro _
      rfl
    · exact absurd (fun h => h trivial) c
  · have e1 : postE m o = 0 := by unfold postE; rw [if_neg (fun x => x hE), if_neg hz]
    have e2 : postM m o = postT ⟨m, o⟩ := if_pos e1
    rw [e1, e2]
    simp only [decide_eq_false hz, cond_false]
    have w1 : ((postT ⟨m, o⟩).map (·.map frK)).length ≤ 1048576 ∧ (∀ r ∈ (postT ⟨m, o⟩).map (·.map frK), wts r ≤ 900000000) ∧ ∀ r ∈ (postT ⟨m, o⟩).map (·.map frK), wts r ≤ 900000000 := ⟨by rw [List.length_map]; omega, fun r hr => by have := hwr r hr; omega, fun r hr => by have := hwr r hr; omega⟩
    refine gIf (fun c => ?_) fun c => ?_
    · exact absurd c (by decide)
    repeat first | refine nx ?_ | intro _
    refine gIf (fun c1 => ?_) fun c1 => ?_
    · rw [pR_self] at c1
      exact absurd c1 (by decide)
    repeat first | refine nx ?_ | intro _
    refine gLp (fun k : Nat => [(9, iv k)]) (fun _ => []) (fun k => k ≤ o.length) (fun k => o.length - k) 0 (Nat.zero_le _) (fun k hk => ?_)
    have hlm : ((postT ⟨m, o⟩).map (·.map frK)).length = o.length := by rw [List.length_map, hpl]
    repeat first | refine nx ?_ | intro _
    rw [hlm]
    refine gIf (fun ck => ?_) fun ck => ?_
    · have hp1 := hpq k ck
      have hrow : ((postT ⟨m, o⟩).map (·.map frK)).getD k [] = (postR ⟨m, o⟩ k).map frK := by rw [getD_KR, postT_at (t := ⟨m, o⟩) ck]
      have hds := post_dist (t := ⟨m, o⟩) nn hz (k := k) ck
      have hwk : wts (((postT ⟨m, o⟩).map (·.map frK)).getD k []) ≤ 134000000 := by rw [hrow]; omega
      repeat first | refine nx ?_ | intro _
      rw [hrow, hds]
      refine gIf (fun c2 => ?_) fun c2 => ?_
      · exact absurd c2 (by decide)
      · repeat first | refine nx ?_ | intro _
        exact gBk (k + 1) (by omega) (by omega)
    · repeat first | refine nx ?_ | intro _
      trivial
end Go.E3
