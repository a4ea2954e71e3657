/- LawModelTotals: a part of the proofs about package model: how the program's functions run, and what they compute, for every input. -/
import Derived.Test.YtpmndikbfalfoaaGreatK11
set_option linter.all false
set_option linter.unusedVariables false
set_option maxRecDepth 20000
set_option maxHeartbeats 4000000
set_option synthInstance.maxSize 1000
namespace Go.E3
open Go Go.Ear Go.Proofs
def totN (m : Md) (n : Nat) : Rat := sumTo (fun k => sumL (fun o => lk ⟨m, o⟩) (pathsL (symb m) (k + 1))) n
theorem modelTotals_c {m : Md} {n : Int} (up : UpK m) (hn0 : -9223372036854775808 ≤ n ∧ n ≤ 9223372036854775807) : Ct Tryz.prog 6 [mv m, iv n] True (bv true) := by
  refine (ctI Tryz.call6 Tryz.func6 Tryz.ntmps6 rfl Tryz.results6 rfl [] fun h0 w0 _ => ?_)
  have ft := up.t
  have hb := up.b
  have hw := up.w
  have hn := hb.n
  have hr := hb.r
  have hs1 : m.say.length ≤ 1048576 := by omega
  have hs2 : m.move.length ≤ 1048576 := by omega
  repeat first | refine nx ?_ | intro _
  refine gIf (fun c => ?_) fun c => ?_
  · repeat first | refine nx ?_ | intro _
    trivial
  have c1 : smallB m 3 = true := Classical.not_not.1 fun e => c (.inl (.inl (.inl (.inl e))))
  have c2 : checkE [m] [] = 0 := Classical.not_not.1 fun e => c (.inl (.inl (.inl (.inr e))))
  have c3 : symb m ≤ 2 := Nat.le_of_not_lt fun e => c (.inl (.inl (.inr e)))
  have c4 : 1 ≤ n ∧ n ≤ 4 := ⟨Int.not_lt.1 fun e => c (.inl (.inr e)), Int.not_lt.1 fun e => c (.inr e)⟩
  clear c
  obtain ⟨N, rfl⟩ : ∃ N : Nat, n = (N : Int) := ⟨n.toNat, by omega⟩
  have g := Good.of ft c1 c2
  have hN : 1 ≤ N ∧ N ≤ 4 := by omega
  clear c4 c1 c2
  have hpl : ∀ t, t ≤ 4 → (pathsL (symb m) t).length ≤ 16 := fun t ht => by
    rw [paths_count]
    refine Nat.le_trans (pow_le c3 t) ?_
    exact Nat.le_trans (Nat.pow_le_pow_right (by decide) ht) (by decide)
  have hlk : ∀ o : List Int, o.length ≤ 4 → bq (lk ⟨m, o⟩) ≤ 802 := fun o ho => Nat.le_trans (g.lk 3 ho (by decide)) (by decide)
  have hmB := g.mB (K := 100000)
  have hnn := g.nn
  repeat first | refine nx ?_ | intro _
  rename_i v
  refine gLp (fun t : Nat => [(6, iv ((t + 1 : Nat) : Int))]) (fun t => [rV v [bv (frK (totN m t)).neg, lv rU (frK (totN m t)).n, lv rU (frK (totN m t)).d] 31]) (fun t => t ≤ N ∧ bq (totN m t) ≤ 1 + 16 * t * 803) (fun t => N - t) 0 ⟨Nat.zero_le _, by show bq 0 ≤ _; rw [bq_zero]; decide⟩ (fun t ⟨ht, hq⟩ => ?_) (h2 := by rw [show totN m 0 = 0 from rfl, frK_zero]; (repeat' (first | refine And.intro ?_ ?_ | trivial | rfl | omega)))
  repeat first | refine nx ?_ | intro _
  refine gIf (fun c => ?_) fun c => ?_
  · have hp1 := hpl (t + 1) (by omega)
    have hps : symb m ≤ 1048576 ∧ t + 1 ≤ 1048576 ∧ ∀ u, u ≤ t + 1 → (pathsL (symb m) u).length ≤ 1048576 := ⟨by omega, by omega, fun u hu => Nat.le_trans (hpl u (by omega)) (by decide)⟩
    repeat first | refine nx ?_ | intro _
    refine gLp (fun i : Nat => [(8, iv i)]) (fun i => [rV v [bv (frK (totN m t + sumL (fun o => lk ⟨m, o⟩) ((pathsL (symb m) (t + 1)).take i))).neg, lv rU (frK (totN m t + sumL (fun o => lk ⟨m, o⟩) ((pathsL (symb m) (t + 1)).take i))).n, lv rU (frK (totN m t + sumL (fun o => lk ⟨m, o⟩) ((pathsL (symb m) (t + 1)).take i))).d] 31]) (fun i => i ≤ (pathsL (symb m) (t + 1)).length ∧ bq (totN m t + sumL (fun o => lk ⟨m, o⟩) ((pathsL (symb m) (t + 1)).take i)) ≤ 1 + (16 * t + i) * 803) (fun i => (pathsL (symb m) (t + 1)).length - i) 0 ⟨Nat.zero_le _, by rw [List.take_zero]; show bq (_ + 0) ≤ _; rw [Rat.add_zero]; omega⟩ (fun i ⟨hi, hqi⟩ => ?_) (h2 := by rw [List.take_zero, show sumL (fun o => lk ⟨m, o⟩) [] = 0 from rfl, Rat.add_zero]; (repeat' (first | refine And.intro ?_ ?_ | trivial | rfl | omega)))
    repeat first | refine nx ?_ | intro _
    refine gIf (fun ci => ?_) fun ci => ?_
    · have hin := getD_mem' (pathsL (symb m) (t + 1)) [] ci
      have hol := paths_len hin
      have hce := check_path g hin (by omega)
      have hlik := likM_lk hce
      have hl : ((pathsL (symb m) (t + 1)).getD i []).length ≤ 1099511627776 ∧ MdB 10000000 m ∧ (checkE [m] [(pathsL (symb m) (t + 1)).getD i []] = 0 → MdB 100000 m ∧ FwB ⟨m, (pathsL (symb m) (t + 1)).getD i []⟩) := ⟨by omega, hw, fun _ => ⟨hmB, g.fw 3 (by omega) (by decide) (by decide)⟩⟩
      have hb1 := hlk ((pathsL (symb m) (t + 1)).getD i []) (by omega)
      have hnk := lk_nn (t := ⟨m, (pathsL (symb m) (t + 1)).getD i []⟩) hnn
      have htk := sumL_take (f := fun o => lk ⟨m, o⟩) [] ci
      have hba := bq_add (totN m t + sumL (fun o => lk ⟨m, o⟩) ((pathsL (symb m) (t + 1)).take i)) (lk ⟨m, (pathsL (symb m) (t + 1)).getD i []⟩)
      rw [Rat.add_assoc, ← htk] at hba
      have hb2 := hb1
      rw [← hlik] at hb1 hnk htk
      have hs0 : ¬ sgQ (likM m ((pathsL (symb m) (t + 1)).getD i [])) < 0 := fun e => by have := sgQ_neg.1 e; exact absurd hnk (Rat.not_le.2 this)
      repeat first | refine gDr 11 (by kernel_rfl) ?_ | refine nx ?_ | intro _
      refine gIf (fun c5 => ?_) fun c5 => ?_
      · exact (c5.elim (fun e => e hce) hs0).elim
      · repeat first | refine nx ?_ | intro _
        rw [Rat.add_assoc, ← htk]
        exact gBk (i + 1) ⟨by omega, by omega⟩ (by omega)
    · rw [List.take_of_length_le (by omega)] at hqi ⊢
      repeat first | refine nx ?_ | intro _
      exact gBk (t + 1) ⟨by omega, by rw [show totN m (t + 1) = totN m t + sumL (fun o => lk ⟨m, o⟩) (pathsL (symb m) (t + 1)) from rfl]; omega⟩ (by omega)
  · have e : t = N := by omega
    subst e
    have hle : ¬ 0 < sgQ (totN m t - ((1 : Int) : Rat)) := fun e => by
      have h1 := rat_sub_pos.1 (sgQ_pos.1 e)
      have h2 : totN m t ≤ 1 := totals_le g.on g.nn t
      exact absurd h1 (Rat.not_lt.2 h2)
    have h1 : bq ((1 : Int) : Rat) ≤ 2 := bq_intc (by decide) (by decide)
    repeat first | refine nx ?_ | intro _
    rw [decide_eq_true (Int.not_lt.1 hle)]; rfl
end Go.E3
