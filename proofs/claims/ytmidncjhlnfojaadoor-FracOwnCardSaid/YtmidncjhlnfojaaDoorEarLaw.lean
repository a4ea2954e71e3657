/- About package frac: EarLaw. -/
import Derived.Test.YtmidncjhlnfojaaDoorEarRef3
import Derived.Test.YtmidncjhlnfojaaDoorEarFn
import Derived.KernelRfl
set_option linter.all false
namespace Go.Ear
def zF : Value := .agg #[.bool false, .slice none 0 0, .slice none 0 0]
theorem fillF1 (x0 x1 x2 : Value) : Instr.fill (fun i => some (i * zF.cells.size, zF.cells.size)) ((List.replicate 1 zF.cells.toList).flatten).toArray [(0, .agg #[x0, x1, x2])] = some #[x0, x1, x2] := by kernel_rfl
theorem fillF2 (x0 x1 x2 x3 x4 x5 : Value) : Instr.fill (fun i => some (i * zF.cells.size, zF.cells.size)) ((List.replicate 2 zF.cells.toList).flatten).toArray [(0, .agg #[x0, x1, x2]), (1, .agg #[x3, x4, x5])] = some #[x0, x1, x2, x3, x4, x5] := by kernel_rfl
theorem fillF3 (x0 x1 x2 x3 x4 x5 x6 x7 x8 : Value) : Instr.fill (fun i => some (i * zF.cells.size, zF.cells.size)) ((List.replicate 3 zF.cells.toList).flatten).toArray [(0, .agg #[x0, x1, x2]), (1, .agg #[x3, x4, x5]), (2, .agg #[x6, x7, x8])] = some #[x0, x1, x2, x3, x4, x5, x6, x7, x8] := by kernel_rfl
theorem fillF4 (x0 x1 x2 x3 x4 x5 x6 x7 x8 x9 x10 x11 : Value) : Instr.fill (fun i => some (i * zF.cells.size, zF.cells.size)) ((List.replicate 4 zF.cells.toList).flatten).toArray [(0, .agg #[x0, x1, x2]), (1, .agg #[x3, x4, x5]), (2, .agg #[x6, x7, x8]), (3, .agg #[x9, x10, x11])] = some #[x0, x1, x2, x3, x4, x5, x6, x7, x8, x9, x10, x11] := by kernel_rfl
theorem fillF5 (x0 x1 x2 x3 x4 x5 x6 x7 x8 x9 x10 x11 x12 x13 x14 : Value) : Instr.fill (fun i => some (i * zF.cells.size, zF.cells.size)) ((List.replicate 5 zF.cells.toList).flatten).toArray [(0, .agg #[x0, x1, x2]), (1, .agg #[x3, x4, x5]), (2, .agg #[x6, x7, x8]), (3, .agg #[x9, x10, x11]), (4, .agg #[x12, x13, x14])] = some #[x0, x1, x2, x3, x4, x5, x6, x7, x8, x9, x10, x11, x12, x13, x14] := by kernel_rfl
theorem fillF6 (x0 x1 x2 x3 x4 x5 x6 x7 x8 x9 x10 x11 x12 x13 x14 x15 x16 x17 : Value) : Instr.fill (fun i => some (i * zF.cells.size, zF.cells.size)) ((List.replicate 6 zF.cells.toList).flatten).toArray [(0, .agg #[x0, x1, x2]), (1, .agg #[x3, x4, x5]), (2, .agg #[x6, x7, x8]), (3, .agg #[x9, x10, x11]), (4, .agg #[x12, x13, x14]), (5, .agg #[x15, x16, x17])] = some #[x0, x1, x2, x3, x4, x5, x6, x7, x8, x9, x10, x11, x12, x13, x14, x15, x16, x17] := by kernel_rfl
theorem fillF7 (x0 x1 x2 x3 x4 x5 x6 x7 x8 x9 x10 x11 x12 x13 x14 x15 x16 x17 x18 x19 x20 : Value) : Instr.fill (fun i => some (i * zF.cells.size, zF.cells.size)) ((List.replicate 7 zF.cells.toList).flatten).toArray [(0, .agg #[x0, x1, x2]), (1, .agg #[x3, x4, x5]), (2, .agg #[x6, x7, x8]), (3, .agg #[x9, x10, x11]), (4, .agg #[x12, x13, x14]), (5, .agg #[x15, x16, x17]), (6, .agg #[x18, x19, x20])] = some #[x0, x1, x2, x3, x4, x5, x6, x7, x8, x9, x10, x11, x12, x13, x14, x15, x16, x17, x18, x19, x20] := by kernel_rfl
theorem fillF8 (x0 x1 x2 x3 x4 x5 x6 x7 x8 x9 x10 x11 x12 x13 x14 x15 x16 x17 x18 x19 x20 x21 x22 x23 : Value) : Instr.fill (fun i => some (i * zF.cells.size, zF.cells.size)) ((List.replicate 8 zF.cells.toList).flatten).toArray [(0, .agg #[x0, x1, x2]), (1, .agg #[x3, x4, x5]), (2, .agg #[x6, x7, x8]), (3, .agg #[x9, x10, x11]), (4, .agg #[x12, x13, x14]), (5, .agg #[x15, x16, x17]), (6, .agg #[x18, x19, x20]), (7, .agg #[x21, x22, x23])] = some #[x0, x1, x2, x3, x4, x5, x6, x7, x8, x9, x10, x11, x12, x13, x14, x15, x16, x17, x18, x19, x20, x21, x22, x23] := by kernel_rfl
def smallL (l : List Fr) : Bool := !(l.any fun f => decide (12 < f.n.length) || decide (12 < f.d.length))
def bigF (f : Fr) : Bool := decide (12 < f.n.length) || decide (12 < f.d.length)
theorem smallL_t {l : List Fr} (h : l.any bigF = false) : smallL l = true := by unfold smallL; show (!l.any bigF) = true; rw [h]; rfl
theorem smallL_f {l : List Fr} {k : Nat} (hk : k < l.length) (h : bigF (l.getD k fr0) = true) : smallL l = false := by
  unfold smallL; show (!l.any bigF) = false; rw [any_of_getD hk h]; rfl
theorem bigF_t {f : Fr} (h : 12 < f.n.length ∨ 12 < f.d.length) : bigF f = true := by unfold bigF; rw [Bool.or_eq_true, decide_eq_true_iff, decide_eq_true_iff]; exact h
theorem bigF_f {f : Fr} (h : ¬ (12 < f.n.length ∨ 12 < f.d.length)) : bigF f = false := by rw [← Bool.not_eq_true]; unfold bigF; rw [Bool.or_eq_true, decide_eq_true_iff, decide_eq_true_iff]; exact h
theorem small_bf1 {a : Fr} (h : smallL [a] = true) : bf a ≤ 12 := by
  have h1 : (![a].any bigF) = true := h
  simp [bigF] at h1; unfold bf; omega
theorem small_bf2 {a b : Fr} (h : smallL [a, b] = true) : bf a ≤ 12 ∧ bf b ≤ 12 := by
  have h1 : (![a, b].any bigF) = true := h
  simp [bigF] at h1; unfold bf; omega
theorem sameF_self (f : Fr) : sameF f f = true := by unfold sameF; simp
theorem sameF_cast {f g : Fr} (h : f = g) : sameF f g = true := by rw [h]; exact sameF_self g
theorem bq_quo {n d : Int} (h1 : -9223372036854775808 ≤ n) (h2 : n ≤ 9223372036854775807) (h3 : -9223372036854775808 ≤ d) (h4 : d ≤ 9223372036854775807) : bq ((n : Rat) / (d : Rat)) ≤ 4 := by
  have := bq_div (n : Rat) (d : Rat); have := bq_intc h1 h2; have := bq_intc h3 h4; omega
theorem bq_lit {q : Rat} (h1 : q.num.natAbs < 4294967296) (h2 : q.den < 4294967296) : bq q ≤ 2 := by
  have := sz_small (n := q.num.natAbs) (by omega); have := sz_small (n := q.den) (by omega)
  unfold bq; omega
def Q (n d : Int) : Rat := ((n : Int) : Rat) / ((d : Int) : Rat)
theorem bq_Q {n d : Int} (h1 : -9223372036854775808 ≤ n) (h2 : n ≤ 9223372036854775807) (h3 : -9223372036854775808 ≤ d) (h4 : d ≤ 9223372036854775807) : bq (Q n d) ≤ 4 := bq_quo h1 h2 h3 h4
theorem Q_def (n d : Int) : Q n d = ((n : Int) : Rat) / ((d : Int) : Rat) := rfl
theorem eE : decimalE 3 = 0 := by decide
theorem eA : Q (6) (-4) = mkRat (-3) 2 := by decide +kernel
theorem eB : powQ (Q (-2) (3)) 3 = mkRat (-8) 27 := by decide +kernel
theorem eB0 : powE (Q (-2) (3)) 3 = 0 := by decide +kernel
theorem eC : floorQ (Q (5) (7)) 10 = mkRat 7 10 := by decide +kernel
theorem eD : Q (2) (3) = mkRat 2 3 := by decide +kernel
theorem eP : parseQ [45, 48, 49, 50, 46, 53, 48] = (mkRat (-25) 2, 0) := by decide +kernel
theorem eS : Q (1) (2) + Q (1) (3) = mkRat 5 6 := by decide +kernel
theorem eH : Q (1) (2) = mkRat 1 2 := by decide +kernel
theorem e46 : Q (4) (6) = mkRat 2 3 := by decide +kernel
theorem tA : textQ (Q (6) (-4)) = [45, 51, 47, 50] := by
  rw [eA]; show [45] ++ (decT 3 ++ 47 :: decT 2) = _
  rw [decT_small (by decide), decT_small (by decide)]; decide
theorem tB : textQ (powQ (Q (-2) (3)) 3) = [45, 56, 47, 50, 55] := by
  rw [eB]; show [45] ++ (decT 8 ++ 47 :: decT 27) = _
  rw [decT_small (by decide), decT_big (by decide), decT_small (by decide)]; decide
theorem tC : textQ (floorQ (Q (5) (7)) 10) = [55, 47, 49, 48] := by
  rw [eC]; show [] ++ (decT 7 ++ 47 :: decT 10) = _
  rw [decT_small (by decide), decT_big (by decide), decT_small (by decide)]; decide
theorem tD : decimalQ (Q (2) (3)) 3 = [48, 46, 54, 54, 55] := by
  rw [eD]; show [] ++ dotT 3 (padT 3 (decT 667)) = _
  rw [decT_big (by decide), decT_big (by decide), decT_small (by decide)]; decide
theorem tP : textQ (parseQ [45, 48, 49, 50, 46, 53, 48]).1 = [45, 50, 53, 47, 50] := by
  rw [eP]; show [45] ++ (decT 25 ++ 47 :: decT 2) = _
  rw [decT_big (u := 25) (by decide), decT_small (u := 25 / 10) (by decide)]; decide
theorem tS : textQ (Q (1) (2) + Q (1) (3)) = [53, 47, 54] := by
  rw [eS]; show [] ++ (decT 5 ++ 47 :: decT 6) = _
  rw [decT_small (by decide), decT_small (by decide)]; decide
theorem tH : sizeQ (Q (1) (2)) = 3 := by
  rw [eH]; show bitlen 1 + bitlen 2 = 3
  rw [bitlen_pos (n := 1) (by decide), bitlen_pos (n := 2) (by decide), show 2 / 2 = 1 from rfl, bitlen_pos (n := 1) (by decide), show 1 / 2 = 0 from rfl, bitlen_zero]
theorem tM : bestAt [frK (Q (1) (2)), frK (Q (2) (3)), frK (Q (4) (6))] 3 = 1 := by
  have m1 : bestAt [frK (Q (1) (2)), frK (Q (2) (3)), frK (Q (4) (6))] 1 = 0 := by
    rw [bestAt_succ, bestAt_zero, if_pos (.inl (by decide))]; rfl
  have m2 : bestAt [frK (Q (1) (2)), frK (Q (2) (3)), frK (Q (4) (6))] 2 = 1 := by
    rw [bestAt_succ, m1, if_pos (.inr (by show (frK _).rat < (frK _).rat; rw [frK_rat, frK_rat]; decide +kernel))]; rfl
  rw [bestAt_succ, m2, if_neg]
  rintro (h | h)
  · exact absurd h (by decide)
  · revert h; show ¬ ((frK _).rat < (frK _).rat); rw [frK_rat, frK_rat]; decide +kernel
theorem kA : bq (Q (6) (-4)) ≤ 2 := by rw [eA]; exact bq_lit (by decide) (by decide)
theorem kB : bq (powQ (Q (-2) (3)) 3) ≤ 2 := by rw [eB]; exact bq_lit (by decide) (by decide)
theorem kC : bq (floorQ (Q (5) (7)) 10) ≤ 2 := by rw [eC]; exact bq_lit (by decide) (by decide)
theorem kP : bq (parseQ [45, 48, 49, 50, 46, 53, 48]).1 ≤ 2 := by rw [eP]; exact bq_lit (by decide) (by decide)
theorem kS : bq (Q (1) (2) + Q (1) (3)) ≤ 2 := by rw [eS]; exact bq_lit (by decide) (by decide)
attribute [irreducible] Q
end Go.Ear
