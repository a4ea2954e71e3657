/- LawModelBest: a part of the proofs about package model: how the program's functions run, and what they compute, for every input. -/
import Derived.Test.YtpmndikbfalfoaaGreatH6
set_option linter.all false
set_option linter.unusedVariables false
set_option maxRecDepth 20000
set_option maxHeartbeats 8000000
set_option synthInstance.maxSize 1000
namespace Go.E3
open Go Go.Ear Go.Proofs
theorem modelBest_c {m : Md} {o : List Int} (up : UpK m) (uo : o.length ≤ 1048576 ∧ I64s o) : Ct Tryz.prog 3 [mv m, lv rI o] True (bv true) := by
  refine (ctI Tryz.call3 Tryz.func3 Tryz.ntmps3 rfl Tryz.results3 rfl [] fun h0 w0 _ => ?_)
  have ft := up.t
  have hb := up.b
  have hw := up.w
  have ho := uo.1
  repeat first | refine nx ?_ | intro _
  refine gIf (fun c => ?_) fun c => ?_
  · repeat first | refine nx ?_ | intro _
    trivial
  obtain ⟨g, hol, hE⟩ := fair_all' ft (Classical.not_not.1 c)
  clear c
  have hmB := g.mB (K := 100000)
  have tk := checkE_TOk hE
  have hrs : RsB ⟨m, o⟩ := g.rs 9 hol (by decide)
  have f2 : o.length ≤ 1099511627776 ∧ MdB 10000000 m ∧ (checkE [m] [o] = 0 → MdB 100000 m ∧ RsB ⟨m, o⟩) := ⟨by omega, hw, fun _ => ⟨hmB, hrs⟩⟩
  have hw100 : MdW 100 m := MdW.up g.w (by decide)
  have hnn := g.nn
  have h40 := g.s40
  have hs1 := g.s1
  repeat first | refine nx ?_ | intro _
  refine gIf (fun c => ?_) fun c => ?_
  · have hi : isB ⟨m, o⟩ = false := by simpa using c
    have h1 : o.length = 0 ∨ bestW ⟨m, o⟩ = 0 := by unfold isB at hi; rw [Bool.not_eq_false', Bool.or_eq_true, decide_eq_true_iff, decide_eq_true_iff] at hi; exact hi
    have he := best_none hE h1
    have hne : bestE m o ≠ 0 := by rw [he]; decide
    rw [hi, he, bestP_none hne, bestM_none hne]
    have hz : bq (0 : Rat) ≤ 2 := by rw [bq_zero]; decide
    repeat first | refine nx ?_ | intro _
    rw [decide_eq_true (sgQ_zero.2 (rfl : (0 : Rat) = 0))]; rfl
  · have hi : isB ⟨m, o⟩ = true := Classical.not_not.1 c
    have h1 : ¬ (o.length = 0 ∨ bestW ⟨m, o⟩ = 0) := by unfold isB at hi; simpa [not_or] using hi
    have h2 : o.length ≠ 0 := fun e => h1 (.inl e)
    have h3 : bestW ⟨m, o⟩ ≠ 0 := fun e => h1 (.inr e)
    have he := best_is hE h2 h3
    have hbP : bestP m o = pathN ⟨m, o⟩ o.length := if_pos he
    have hbM : bestM m o = bestW ⟨m, o⟩ := if_pos he
    have hbq : bq (bestW ⟨m, o⟩) ≤ (2 * o.length + 2) * 2 := by rw [← weight_bestW (t := ⟨m, o⟩) hs1 (Nat.pos_of_ne_zero h2)]; exact weightT_bq (t := ⟨m, o⟩) g.w (by decide)
    have hpl := pathN_len ⟨m, o⟩ o.length
    clear c
    rw [hi, he, hbP, hbM, cond_true, cond_true]
    repeat first | refine nx ?_ | intro _
    rw [sameF_self]
    refine gIf (fun c => absurd c (by simp)) fun c => ?_
    clear c
    repeat first | refine nx ?_ | intro _
    refine gLp (fun k : Nat => [(11, iv k)]) (fun _ => []) (fun k => k ≤ o.length) (fun k => o.length - k) 0 (Nat.zero_le _) (fun k hk => ?_)
    repeat first | refine nx ?_ | intro _
    rw [hpl]
    refine gIf (fun c => ?_) fun c => ?_
    · repeat first | refine nx ?_ | intro _
      refine gIf (fun c => absurd rfl c) fun c => ?_
      repeat first | refine nx ?_ | intro _
      exact gBk (k + 1) (by omega) (by omega)
    · repeat first | refine nx ?_ | intro _
      trivial
end Go.E3
