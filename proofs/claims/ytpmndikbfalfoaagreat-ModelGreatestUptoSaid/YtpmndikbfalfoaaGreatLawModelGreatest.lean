/- LawModelGreatest: a part of the proofs about package model: how the program's functions run, and what they compute, for every input. -/
import Derived.Test.YtpmndikbfalfoaaGreatH5
set_option linter.all false
set_option linter.unusedVariables false
set_option maxRecDepth 20000
set_option maxHeartbeats 8000000
set_option synthInstance.maxSize 1000
namespace Go.E3
open Go Go.Ear Go.Proofs
theorem bestW_bq {m : Md} {o : List Int} {W : Nat} (w : MdW W m) (hW : 1 ≤ W) (hs : 1 ≤ m.start.length) (h : 0 < o.length) : bq (bestW ⟨m, o⟩) ≤ (2 * o.length + 2) * W := by
  rw [← weight_bestW (t := ⟨m, o⟩) hs h]; exact weightT_bq (t := ⟨m, o⟩) w hW
theorem scanG_bq {g : List Int → Rat} {l : List (List Int)} {B : Nat} (hB : 1 ≤ B) (h : ∀ p, bq (g p) ≤ B) : ∀ k, bq (scanG g l k).2 ≤ B
  | 0 => by show bq 0 ≤ B; rw [bq_zero]; exact hB
  | k + 1 => by rw [scanG]; split; exact h _; exact scanG_bq hB h k
theorem scanG_bd {g : List Int → Rat} {l : List (List Int)} : ∀ k, -1 ≤ (scanG g l k).1 ∧ (scanG g l k).1 ≤ k
  | 0 => ⟨Int.le_refl _, by show (-1 : Int) ≤ 0; decide⟩
  | k + 1 => by have := scanG_bd (g := g) (l := l) k; rw [scanG]; split; exact ⟨by show -1 ≤ (k : Int); omega, by show (k : Int) ≤ _; omega⟩; omega
theorem modelGreatest_c {m : Md} {o : List Int} (up : UpK m) (uo : o.length ≤ 1048576 ∧ I64s o) : Ct Tryz.prog 4 [mv m, lv rI o] True (bv true) := by
  refine (ctI Tryz.call4 Tryz.func4 Tryz.ntmps4 rfl Tryz.results4 rfl [] fun h0 w0 _ => ?_)
  have ft := up.t
  have hb := up.b
  have hw := up.w
  have ho := uo.1
  repeat first | refine nx ?_ | intro _
  refine gIf (fun c => ?_) fun c => ?_
  · repeat first | refine nx ?_ | intro _
    trivial
  obtain ⟨g, hol, hE⟩ := fair_all' ft (Classical.not_not.1 c)
  clear c
  have hmB := g.mB (K := 100000)
  have tk := checkE_TOk hE
  have hfw : FwB ⟨m, o⟩ := g.fw 4 hol (by decide) (by decide)
  have hrs : RsB ⟨m, o⟩ := g.rs 4 hol (by decide)
  have f1 : o.length ≤ 1099511627776 ∧ MdB 10000000 m ∧ (checkE [m] [o] = 0 → MdB 100000 m ∧ FwB ⟨m, o⟩) := ⟨by omega, hw, fun _ => ⟨hmB, hfw⟩⟩
  have f2 : o.length ≤ 1099511627776 ∧ MdB 10000000 m ∧ (checkE [m] [o] = 0 → MdB 100000 m ∧ RsB ⟨m, o⟩) := ⟨by omega, hw, fun _ => ⟨hmB, hrs⟩⟩
  have e1 := likM_lk hE
  have hs := g.s
  have hpn : ∀ t, t ≤ 5 → (pathsL m.start.length t).length ≤ 243 := fun t ht => by
    rw [paths_count]
    exact Nat.le_trans (pow_le hs t) (Nat.le_trans (Nat.pow_le_pow_right (by decide) ht) (by decide))
  have hpl := hpn o.length hol
  have hps : m.start.length ≤ 1048576 ∧ o.length ≤ 1048576 ∧ ∀ t, t ≤ o.length → (pathsL m.start.length t).length ≤ 1048576 := ⟨by omega, by omega, fun t ht => Nat.le_trans (hpn t (by omega)) (by decide)⟩
  have hwb : ∀ p, bq (weightT ⟨m, o⟩ p) ≤ 24 := fun p => Nat.le_trans (weightT_bq g.w (by decide)) (by dsimp only; omega)
  have hw100 : MdW 100 m := MdW.up g.w (by decide)
  have hbe : bestE m o = 7 ∨ bestE m o = 0 := by
    by_cases h1 : o.length = 0 ∨ bestW ⟨m, o⟩ = 0
    · exact .inl (best_none hE h1)
    · exact .inr (best_is hE (fun e => h1 (.inl e)) fun e => h1 (.inr e))
  have hsq := scanG_bq (l := pathsL m.start.length o.length) (by decide) hwb
  have hsb := scanG_bd (g := weightT ⟨m, o⟩) (l := pathsL m.start.length o.length)
  repeat first | refine nx ?_ | intro _
  refine gIf (fun c => ?_) fun c => ?_
  · exact (c.elim (fun e => e hE) fun e => hbe.elim e.2 e.1).elim
  clear c
  rw [hE]
  have hnn := g.nn
  have hs1 := g.s1
  generalize hP : pathsL m.start.length o.length = P at *
  repeat first | refine nx ?_ | intro _
  rw [hP]
  rename_i v6 v8 v12
  refine gLp (fun k : Nat => [(13, iv k), (11, iv (scanG (weightT ⟨m, o⟩) P k).1)]) (fun k => [rV v12 [bv (frK (scanG (weightT ⟨m, o⟩) P k).2).neg, lv rU (frK (scanG (weightT ⟨m, o⟩) P k).2).n, lv rU (frK (scanG (weightT ⟨m, o⟩) P k).2).d] 31]) (fun k => k ≤ P.length) (fun k => P.length - k) 0 (Nat.zero_le _) (fun k hk => ?_) (h2 := by rw [show (scanG (weightT ⟨m, o⟩) P 0).2 = 0 from rfl, frK_zero]; (repeat' (first | refine And.intro ?_ ?_ | trivial | rfl | omega)))
  have hqk := hsq k
  have hbk := hsb k
  repeat first | refine nx ?_ | intro _
  refine gIf (fun ck => ?_) fun ck => ?_
  · have pk : POk m o (P.getD k []) := POk.of (by rw [hP]; exact getD_mem' _ _ ck)
    have hpb := hwb (P.getD k [])
    repeat first | refine nx ?_ | intro _
    refine gIf (fun c2 => ?_) fun c2 => ?_
    · have hlt : (scanG (weightT ⟨m, o⟩) P k).2 < weightT ⟨m, o⟩ (P.getD k []) := rat_sub_pos.1 (sgQ_pos.1 c2)
      refine gKp [14, 13, 12, 10, 9, 8, 7, 5, 6, 4, 2, 0, 1] (gDr 3 (by kernel_rfl) ?_)
      repeat first | refine nx ?_ | intro _
      exact gBk (k + 1) (by omega) (by omega) (h1 := by rw [scanG_t hlt]; (repeat' (first | refine And.intro ?_ ?_ | trivial | rfl | omega))) (h2 := by rw [scanG_t hlt]; (repeat' (first | refine And.intro ?_ ?_ | trivial | rfl | omega)))
    · have hlt : ¬ (scanG (weightT ⟨m, o⟩) P k).2 < weightT ⟨m, o⟩ (P.getD k []) := fun e => c2 (sgQ_pos.2 (rat_sub_pos.2 e))
      repeat first | refine nx ?_ | intro _
      exact gBk (k + 1) (by omega) (by omega) (h1 := by rw [scanG_f hlt]; (repeat' (first | refine And.intro ?_ ?_ | trivial | rfl | omega))) (h2 := by rw [scanG_f hlt]; (repeat' (first | refine And.intro ?_ ?_ | trivial | rfl | omega)))
  have ek : k = P.length := by omega
  subst ek
  clear ck hk
  by_cases h1 : o.length = 0 ∨ bestW ⟨m, o⟩ = 0
  · have hsc : scanG (weightT ⟨m, o⟩) P P.length = (-1, 0) := by
      rcases Nat.eq_zero_or_pos o.length with h0 | h0
      · have hP1 : P = [[]] := by rw [← hP, h0]; rfl
        rw [hP1]
        exact scanG_f (by show ¬ (0 : Rat) < weightT ⟨m, o⟩ _; unfold weightT; rw [if_pos h0]; exact Rat.not_lt.2 Rat.le_refl)
      · rw [← hP]; exact scan_zero (t := ⟨m, o⟩) hnn hs1 h0 (h1.resolve_left (by omega))
    have hl0 : lk ⟨m, o⟩ = 0 := by
      rcases Nat.eq_zero_or_pos o.length with h0 | h0
      · exact lk_zero (t := ⟨m, o⟩) h0
      · exact lk_none (t := ⟨m, o⟩) hnn hs1 h0 (h1.resolve_left (by omega))
    have hlq : bq (lk ⟨m, o⟩) ≤ 2 := by rw [hl0, bq_zero]; decide
    rw [← e1] at hlq
    rw [best_none hE h1, hsc]
    repeat first | refine nx ?_ | intro _
    refine gIf (fun c => ?_) fun c => absurd (by decide) c
    repeat first | refine nx ?_ | intro _
    rw [e1, hl0]; rfl
  · have h2 : o.length ≠ 0 := fun e => h1 (.inl e)
    have h3 : bestW ⟨m, o⟩ ≠ 0 := fun e => h1 (.inr e)
    obtain ⟨j, hj, hg, hsc⟩ := scan_best (t := ⟨m, o⟩) hnn hs1 (Nat.pos_of_ne_zero h2) h3
    have hbq := bestW_bq g.w (by decide) hs1 (Nat.pos_of_ne_zero h2)
    have hle := best_le_lk (t := ⟨m, o⟩) hnn hs1 (Nat.pos_of_ne_zero h2)
    have hlq : bq (lk ⟨m, o⟩) ≤ 5000 := Nat.le_trans (g.lk 4 hol (by decide)) (by decide)
    have hbP : bestP m o = pathN ⟨m, o⟩ o.length := if_pos (best_is hE h2 h3)
    have hbM : bestM m o = bestW ⟨m, o⟩ := if_pos (best_is hE h2 h3)
    dsimp only at hj hg hsc
    rw [hP] at hj hg hsc
    have hgl : (P.getD j []).length = o.length := by rw [hg]; exact pathN_len _ _
    rw [← e1] at hlq hle
    rw [best_is hE h2 h3, hsc, hbP, hbM, ← hg]
    dsimp only
    repeat first | refine nx ?_ | intro _
    refine gIf (fun c => ?_) fun c => ?_
    · exact absurd c (by omega)
    clear c
    repeat first | refine nx ?_ | intro _
    rw [hgl]
    refine gIf (fun c => absurd c (by simp)) fun c => ?_
    clear c
    have g1 := ge_of hgl
    repeat first | refine nx ?_ | intro _
    refine gLp (fun k : Nat => [(15, iv k)]) (fun _ => []) (fun k => k ≤ o.length) (fun k => o.length - k) 0 (Nat.zero_le _) (fun k hk => ?_)
    repeat first | refine nx ?_ | intro _
    rw [hgl]
    refine gIf (fun c => ?_) fun c => ?_
    · repeat first | refine nx ?_ | intro _
      refine gIf (fun c => absurd rfl c) fun c => ?_
      repeat first | refine nx ?_ | intro _
      exact gBk (k + 1) (by omega) (by omega)
    · have s1 : sgQ (bestW ⟨m, o⟩ - bestW ⟨m, o⟩) = 0 := sgQ_zero.2 (by grind)
      have s2 : sgQ (bestW ⟨m, o⟩ - likM m o) ≤ 0 := Int.not_lt.1 fun e => absurd (rat_sub_pos.1 (sgQ_pos.1 e)) (Rat.not_lt.2 hle)
      repeat first | refine nx ?_ | intro _
      rw [decide_eq_true s1, decide_eq_true s2]; rfl
end Go.E3
