/- LawModelWeighs: a part of the proofs about package model: how the program's functions run, and what they compute, for every input. -/
import Derived.Test.YtpmndikbfalfoaaGreatW3
set_option linter.all false
set_option linter.unusedVariables false
set_option maxRecDepth 20000
set_option maxHeartbeats 8000000
set_option synthInstance.maxSize 1000
namespace Go.E3
open Go Go.Ear Go.Proofs
def fineQ (m : Md) (o p : List Int) (k : Nat) : Bool := decide (p.length = o.length) && (List.range k).all fun j => decide (0 ≤ p.getD j 0 ∧ p.getD j 0 < (m.start.length : Int))
theorem fineQ_zero (m : Md) (o p : List Int) : fineQ m o p 0 = decide (p.length = o.length) := by unfold fineQ; simp
theorem fineQ_succ (m : Md) (o p : List Int) (k : Nat) : (fineQ m o p k && decide (0 ≤ p.getD k 0) && decide (p.getD k 0 < (m.start.length : Int))) = fineQ m o p (k + 1) := by
  unfold fineQ
  rw [List.range_succ, List.all_append]
  simp only [List.all_cons, List.all_nil, Bool.and_true, Bool.decide_and, Bool.and_assoc]
theorem fineQ_bad (m : Md) (o p : List Int) : fineQ m o p p.length = !decide (badP m o p) := by
  rw [Bool.eq_iff_iff]
  unfold fineQ
  rw [Bool.not_eq_true', decide_eq_false_iff_not]
  unfold badP
  rw [not_or, Classical.not_not, Bool.not_eq_true, List.any_eq_false]
  simp only [Bool.and_eq_true, decide_eq_true_eq, List.all_eq_true, List.mem_range]
  refine and_congr_right fun _ => ?_
  constructor
  · intro h x hx
    obtain ⟨i, hi, rfl⟩ := List.getElem_of_mem hx
    have := h i hi
    rw [List.getD_eq_getElem?_getD, List.getElem?_eq_getElem hi] at this
    unfold offS
    simp only [Option.getD_some] at this
    simp only [Bool.or_eq_true, decide_eq_true_eq]; omega
  · intro h j hj
    have := h _ (getD_mem' p 0 hj)
    unfold offS at this
    simp only [Bool.or_eq_true, decide_eq_true_eq] at this; omega
theorem modelWeighs_c {m : Md} {o path : List Int} (up : UpK m) (uo : o.length ≤ 1048576 ∧ I64s o) (uq : path.length ≤ 1048576 ∧ I64s path) : Ct Tryz.prog 13 [mv m, lv rI o, lv rI path] True (bv true) := by
  refine (ctI Tryz.call13 Tryz.func13 Tryz.ntmps13 rfl Tryz.results13 rfl [] fun h0 w0 _ => ?_)
  have ft := up.t
  have hb := up.b
  have hw := up.w
  have ho := uo.1
  have hp := uq.1
  repeat first | refine nx ?_ | intro _
  refine gIf (fun c => ?_) fun c => ?_
  · repeat first | refine nx ?_ | intro _
    trivial
  have c1 : fairB m o 6 12 = true := Classical.not_not.1 fun e => c (.inl e)
  have c2 : path.length ≤ 100 := by have : ¬ 100 < path.length := fun e => c (.inr e); omega
  obtain ⟨g, hol, hE⟩ := fair_all' ft c1
  clear c c1
  have hmB := g.mB (K := 100000)
  have tk := checkE_TOk hE
  have hw100 : MdW 100 m := MdW.up g.w (by decide)
  have f1 : (o.length ≤ 1048576 ∧ path.length ≤ 1048576 ∧ MdB 10000000 m) ∧ (checkE [m] [o] = 0 → MdW 100 m ∧ MdB 100000 m) := ⟨⟨ho, hp, hw⟩, fun _ => ⟨hw100, hmB⟩⟩
  have hs40 := tk.s40
  dsimp only at hs40
  repeat first | refine nx ?_ | intro _
  refine gLp (fun i : Nat => [(10, iv i), (9, bv (fineQ m o path i))]) (fun _ => []) (fun i => i ≤ path.length) (fun i => path.length - i) 0 (Nat.zero_le _) (fun i hi => ?_) (h1 := by rw [fineQ_zero]; (repeat' (first | refine And.intro ?_ ?_ | trivial | rfl | omega)))
  repeat first | refine nx ?_ | intro _
  refine gIf (fun c3 => ?_) fun c3 => ?_
  · repeat first | refine nx ?_ | intro _
    exact gBk (i + 1) (by omega) (by omega) (h1 := by rw [fineQ_succ]; (repeat' (first | refine And.intro ?_ ?_ | trivial | rfl | omega)))
  · have ei : i = path.length := by omega
    subst ei
    rw [fineQ_bad]
    have wb : bq (wgtM m o path) ≤ 134217000 := by
      unfold wgtM; split
      · refine Nat.le_trans (weightT_bq (t := ⟨m, o⟩) hw100 (by decide)) ?_
        show (2 * o.length + 2) * 100 ≤ _; omega
      · rw [bq_zero]; decide
    by_cases hbd : badP m o path
    · have e1 : wgtE m o path = 2 := by unfold wgtE; rw [if_neg (fun e => e hE), if_pos hbd]
      have e2 : wgtM m o path = 0 := if_neg (by rw [e1]; decide)
      rw [decide_eq_true hbd, e1, e2]
      rw [e2] at wb
      repeat first | refine nx ?_ | intro _
      refine gIf (fun c => absurd c (by simp [sgQ_zero.2 rfl, sameF_self])) fun c => ?_
      repeat first | refine nx ?_ | intro _
      refine gIf (fun c => absurd rfl c) fun c => ?_
      have hsl := spN_len (p := path) path.length
      repeat first | refine nx ?_ | intro _
      refine gLp (fun i : Nat => [(13, iv i)]) (fun _ => []) (fun i => i ≤ (spN path path.length).length) (fun i => (spN path path.length).length - i) 0 (Nat.zero_le _) (fun i hi => ?_)
      repeat first | refine nx ?_ | intro _
      refine gIf (fun c3 => ?_) fun c3 => ?_
      · repeat first | refine nx ?_ | intro _
        refine gIf (fun c4 => absurd c4 (by simp)) fun c4 => ?_
        repeat first | refine nx ?_ | intro _
        exact gBk (i + 1) (by omega) (by omega)
      · repeat first | refine nx ?_ | intro _
        trivial
    · have e1 : wgtE m o path = 0 := by unfold wgtE; rw [if_neg (fun e => e hE), if_neg hbd]
      have e2 : wgtM m o path = weightT ⟨m, o⟩ path := if_pos e1
      have pk := POk.of_bad hbd
      have f2 : TOk ⟨m, o⟩ ∧ POk m o path ∧ MdW 100 m ∧ MdB 100000 m := ⟨tk, pk, hw100, hmB⟩
      rw [decide_eq_false hbd, e1, e2]
      rw [e2] at wb
      repeat first | refine nx ?_ | intro _
      refine gIf (fun c => absurd c (by simp [sgQ_zero.2 rfl, sameF_self])) fun c => ?_
      repeat first | refine nx ?_ | intro _
      refine gIf (fun c => absurd rfl c) fun c => ?_
      have hsl := spN_len (p := path) path.length
      repeat first | refine nx ?_ | intro _
      refine gLp (fun i : Nat => [(13, iv i)]) (fun _ => []) (fun i => i ≤ (spN path path.length).length) (fun i => (spN path path.length).length - i) 0 (Nat.zero_le _) (fun i hi => ?_)
      repeat first | refine nx ?_ | intro _
      refine gIf (fun c3 => ?_) fun c3 => ?_
      · repeat first | refine nx ?_ | intro _
        refine gIf (fun c4 => absurd c4 (by simp)) fun c4 => ?_
        repeat first | refine nx ?_ | intro _
        exact gBk (i + 1) (by omega) (by omega)
      · repeat first | refine nx ?_ | intro _
        trivial
end Go.E3
