/- LawModelSums: a part of the proofs about package model: how the program's functions run, and what they compute, for every input. -/
import Derived.Test.YtpmndikbfalfoaaGreatH5
set_option linter.all false
set_option linter.unusedVariables false
set_option maxRecDepth 20000
set_option maxHeartbeats 8000000
set_option synthInstance.maxSize 1000
namespace Go.E3
open Go Go.Ear Go.Proofs
theorem modelSums_c {m : Md} {o : List Int} (up : UpK m) (uo : o.length ≤ 1048576 ∧ I64s o) : Ct Tryz.prog 8 [mv m, lv rI o] True (bv true) := by
  refine (ctI Tryz.call8 Tryz.func8 Tryz.ntmps8 rfl Tryz.results8 rfl [] fun h0 w0 _ => ?_)
  have ft := up.t
  have hb := up.b
  have hw := up.w
  have ho := uo.1
  repeat first | refine nx ?_ | intro _
  refine gIf (fun c => ?_) fun c => ?_
  · repeat first | refine nx ?_ | intro _
    trivial
  obtain ⟨g, hol, hE⟩ := fair_all' ft (Classical.not_not.1 c)
  clear c
  have hmB := g.mB (K := 100000)
  have tk := checkE_TOk hE
  have hfw : FwB ⟨m, o⟩ := g.fw 4 hol (by decide) (by decide)
  have hbw : BwB ⟨m, o⟩ := g.bw 4 hol (by decide) (by decide)
  have f1 : o.length ≤ 1099511627776 ∧ MdB 10000000 m ∧ (checkE [m] [o] = 0 → MdB 100000 m ∧ FwB ⟨m, o⟩) := ⟨by omega, hw, fun _ => ⟨hmB, hfw⟩⟩
  have f2 : o.length ≤ 1099511627776 ∧ MdB 10000000 m ∧ (checkE [m] [o] = 0 → MdB 100000 m ∧ BwB ⟨m, o⟩) := ⟨by omega, hw, fun _ => ⟨hmB, hbw⟩⟩
  have e1 := likM_lk hE
  have e2 : fwdM m o = fwdAll ⟨m, o⟩ := if_pos hE
  have e3 : bwdM m o = bwdAll ⟨m, o⟩ := if_pos hE
  repeat first | refine nx ?_ | intro _
  rw [hE, e1, e2, e3]
  have hF : ((fwdAll ⟨m, o⟩).map (·.map frK)).length = o.length := by rw [List.length_map, fwdAll_len]
  have hB : ((bwdAll ⟨m, o⟩).map (·.map frK)).length = o.length := by rw [List.length_map, bwdAll_len]
  rw [hF, hB]
  refine gIf (fun c => absurd c (by simp)) fun c => ?_
  clear c
  have hs := g.s
  have hpn : ∀ t, t ≤ 5 → (pathsL m.start.length t).length ≤ 243 := fun t ht => by
    rw [paths_count]
    exact Nat.le_trans (pow_le hs t) (Nat.le_trans (Nat.pow_le_pow_right (by decide) ht) (by decide))
  have hpl := hpn o.length hol
  have hps : m.start.length ≤ 1048576 ∧ o.length ≤ 1048576 ∧ ∀ t, t ≤ o.length → (pathsL m.start.length t).length ≤ 1048576 := ⟨by omega, by omega, fun t ht => Nat.le_trans (hpn t (by omega)) (by decide)⟩
  have hwb : ∀ p, bq (weightT ⟨m, o⟩ p) ≤ 24 := fun p => Nat.le_trans (weightT_bq g.w (by decide)) (by dsimp only; omega)
  have hw100 : MdW 100 m := MdW.up g.w (by decide)
  have hlk := lk_paths ⟨m, o⟩
  dsimp only at hlk
  have hlq : bq (lk ⟨m, o⟩) ≤ 5000 := Nat.le_trans (g.lk 4 hol (by decide)) (by decide)
  repeat first | refine nx ?_ | intro _
  rename_i v2
  refine gLp (fun i : Nat => [(13, iv i)]) (fun i => [rV v2 [bv (frK (sumL (weightT ⟨m, o⟩) ((pathsL m.start.length o.length).take i))).neg, lv rU (frK (sumL (weightT ⟨m, o⟩) ((pathsL m.start.length o.length).take i))).n, lv rU (frK (sumL (weightT ⟨m, o⟩) ((pathsL m.start.length o.length).take i))).d] 31]) (fun i => i ≤ (pathsL m.start.length o.length).length ∧ bq (sumL (weightT ⟨m, o⟩) ((pathsL m.start.length o.length).take i)) ≤ 1 + i * 25) (fun i => (pathsL m.start.length o.length).length - i) 0 ⟨Nat.zero_le _, by rw [List.take_zero]; show bq 0 ≤ _; rw [bq_zero]; decide⟩ (fun i ⟨hi, hq⟩ => ?_) (h2 := by rw [List.take_zero, show sumL (weightT ⟨m, o⟩) [] = 0 from rfl, frK_zero]; (repeat' (first | refine And.intro ?_ ?_ | trivial | rfl | omega)))
  repeat first | refine nx ?_ | intro _
  refine gIf (fun ci => ?_) fun ci => ?_
  · have pk : POk m o ((pathsL m.start.length o.length).getD i []) := POk.of (getD_mem' _ _ ci)
    have hpb := hwb ((pathsL m.start.length o.length).getD i [])
    have hst := sumL_take (f := weightT ⟨m, o⟩) [] ci
    have hba := bq_add (sumL (weightT ⟨m, o⟩) ((pathsL m.start.length o.length).take i)) (weightT ⟨m, o⟩ ((pathsL m.start.length o.length).getD i []))
    rw [← hst] at hba
    repeat first | refine nx ?_ | intro _
    rw [← hst]
    exact gBk (i + 1) ⟨by omega, by omega⟩ (by omega)
  rw [List.take_of_length_le (by omega), hlk]
  clear hq hi ci
  repeat first | refine nx ?_ | intro _
  rw [sameF_self]
  repeat first | refine nx ?_ | intro _
  refine gLp (fun t : Nat => [(14, iv t)]) (fun t => []) (fun t => t ≤ o.length) (fun t => o.length - t) 0 (Nat.zero_le _) (fun t ht => ?_)
  repeat first | refine nx ?_ | intro _
  refine gIf (fun ct => ?_) fun ct => ?_
  · have lF : (((fwdAll ⟨m, o⟩).map (·.map frK)).getD t []).length = m.start.length := by rw [len_KR, fwdRow_len (t := ⟨m, o⟩) ct]
    have lB : (((bwdAll ⟨m, o⟩).map (·.map frK)).getD t []).length = m.start.length := by rw [len_KR, bwdRow_len (t := ⟨m, o⟩) ct]
    repeat first | refine gDr 20 (by kernel_rfl) ?_ | refine nx ?_ | intro _
    rw [lF, lB]
    refine gIf (fun c => absurd c (by simp)) fun c => ?_
    clear c
    have fa := hfw.all t
    have ba := hbw.all t
    repeat first | refine nx ?_ | intro _
    rename_i v3 ν
    refine gLp (fun j : Nat => [(16, iv j)]) (fun j => [rV v3 [bv (frK (sumTo (fun j => ((fwdAll ⟨m, o⟩).getD t []).getD j 0 * ((bwdAll ⟨m, o⟩).getD t []).getD j 0) j)).neg, lv rU (frK (sumTo (fun j => ((fwdAll ⟨m, o⟩).getD t []).getD j 0 * ((bwdAll ⟨m, o⟩).getD t []).getD j 0) j)).n, lv rU (frK (sumTo (fun j => ((fwdAll ⟨m, o⟩).getD t []).getD j 0 * ((bwdAll ⟨m, o⟩).getD t []).getD j 0) j)).d] 31]) (fun j => j ≤ m.start.length ∧ bq (sumTo (fun j => ((fwdAll ⟨m, o⟩).getD t []).getD j 0 * ((bwdAll ⟨m, o⟩).getD t []).getD j 0) j) ≤ 1 + j * 600001) (fun j => m.start.length - j) 0 ⟨Nat.zero_le _, by show bq 0 ≤ _; rw [bq_zero]; decide⟩ (fun j ⟨hj, hq⟩ => ?_) (h2 := by rw [show ∀ f : Nat → Rat, sumTo f 0 = 0 from fun _ => rfl, frK_zero]; (repeat' (first | refine And.intro ?_ ?_ | trivial | rfl | omega)))
    repeat first | refine nx ?_ | intro _
    refine gIf (fun cj => ?_) fun cj => ?_
    · have h1 := fa j
      have h2 := ba j
      have h3 := bq_mul (((fwdAll ⟨m, o⟩).getD t []).getD j 0) (((bwdAll ⟨m, o⟩).getD t []).getD j 0)
      have h4 := bq_add (sumTo (fun j => ((fwdAll ⟨m, o⟩).getD t []).getD j 0 * ((bwdAll ⟨m, o⟩).getD t []).getD j 0) j) (((fwdAll ⟨m, o⟩).getD t []).getD j 0 * ((bwdAll ⟨m, o⟩).getD t []).getD j 0)
      have g1 := ge_of lF
      have g2 := ge_of lB
      clear lF lB
      repeat first | refine nx ?_ | intro _
      exact gBk (j + 1) ⟨by omega, by rw [sumTo_succ]; omega⟩ (by omega)
    · have e : j = m.start.length := by omega
      subst e
      have hlb := lk_both' (t := ⟨m, o⟩) ct
      dsimp only at hlb
      rw [fwdAll_at (t := ⟨m, o⟩) ct, bwdAll_at (t := ⟨m, o⟩) ct]
      dsimp only
      rw [hlb]
      repeat first | refine nx ?_ | intro _
      rw [sameF_self]
      repeat first | refine nx ?_ | intro _
      exact gBk (t + 1) (by omega) (by omega)
  · repeat first | refine nx ?_ | intro _
    trivial
end Go.E3
