/- About package frac: EarWhole. -/
import Derived.Test.YtmidncjhlnfojaaDoorEarLaw3
set_option linter.all false
namespace Go.Ear
theorem lt64 {n : Nat} (h : bitlen n ≤ 64) : n < 18446744073709551616 :=
  Nat.lt_of_lt_of_le (lt_bitlen n) (Nat.le_trans (Nat.pow_le_pow_right (by decide) h) (by decide))
theorem big64 {n : Nat} (h : 64 < bitlen n) : 18446744073709551616 ≤ n := by
  rcases Nat.lt_or_ge n 18446744073709551616 with h1 | h1
  · have := bitlen_lt (s := 64) h1; omega
  · exact h1
theorem sh64 {x : Nat} (h : x < 4294967296) : x * 2 ^ 32 < 18446744073709551616 := by
  have e : (2 : Nat) ^ 32 = 4294967296 := rfl
  rw [e]; omega
theorem or_two {n : Nat} (h : n < 18446744073709551616) : (digs n).getD 0 0 ||| (digs n).getD 1 0 * 2 ^ 32 = n := by
  have h1 := two_digs n 0
  have h2 : (digs n).getD 0 0 < 4294967296 := Fit.getD (digs_fit n) 0
  rw [Nat.or_comm, or_shift _ _ h2]
  have e : (2 : Nat) ^ 32 = 4294967296 := rfl
  have eb : B32 * B32 = 18446744073709551616 := rfl
  rw [Nat.pow_zero, Nat.div_one, eb, Nat.mod_eq_of_lt h, Nat.zero_add] at h1
  rw [e]; omega
def intV (f : Fr) : Int := if 2 < sz (val f.n) then 0 else if f.neg = true then (if val f.n ≤ 9223372036854775808 then -(val f.n : Int) else 18446744073709551616 - (val f.n : Int)) else if val f.n < 9223372036854775808 then (val f.n : Int) else (val f.n : Int) - 18446744073709551616
def intO (f : Fr) : Bool := if 2 < sz (val f.n) then false else if f.neg = true then decide (val f.n ≤ 9223372036854775808) else decide (val f.n < 9223372036854775808)
theorem sz2_lt {n : Nat} (h : sz n ≤ 2) : n < 18446744073709551616 := by
  have := val_lt (digs_fit n)
  rw [val_digs] at this
  exact Nat.lt_of_lt_of_le this (Nat.le_trans (Nat.pow_le_pow_right (by decide) h) (by decide))
theorem sz2_big {n : Nat} (h : 2 < sz n) : 18446744073709551616 ≤ n := by
  rcases Nat.lt_or_ge n 18446744073709551616 with h1 | h1
  · exfalso
    have e : digs n = digs n := rfl
    have h2 : sz n ≤ 2 := by
      unfold sz
      by_cases h0 : n = 0
      · rw [h0, digs_zero]; decide
      rw [digs_pos h0]
      by_cases h3 : n / B32 = 0
      · rw [h3, digs_zero]; exact Nat.le_of_ble_eq_true rfl
      rw [digs_pos h3]
      have h4 : n / B32 / B32 = 0 := by rw [Nat.div_div_eq_div_mul]; exact Nat.div_eq_of_lt h1
      rw [h4, digs_zero]; exact Nat.le_refl _
    omega
  · exact h1
theorem int_ok {z : Int} : intO (frK (z : Rat)) = decide (-9223372036854775808 ≤ z ∧ z ≤ 9223372036854775807) := by
  have hv : val (frK (z : Rat)).n = z.natAbs := by show val (digs _) = _; rw [val_digs, Rat.num_intCast]
  have hn : (frK (z : Rat)).neg = decide (z < 0) := by show decide _ = _; rw [Rat.num_intCast]
  unfold intO
  rw [hv, hn, Bool.eq_iff_iff]
  split
  · rename_i h; have := sz2_big h; rw [decide_eq_true_iff]; constructor
    · intro h; cases h
    · intro h; omega
  · split
    · rename_i h; rw [decide_eq_true_iff] at h; rw [decide_eq_true_iff, decide_eq_true_iff]; omega
    · rename_i h; rw [decide_eq_true_iff] at h; rw [decide_eq_true_iff, decide_eq_true_iff]; omega
theorem int_val {z : Int} (h : -9223372036854775808 ≤ z ∧ z ≤ 9223372036854775807) : intV (frK (z : Rat)) = z := by
  have hv : val (frK (z : Rat)).n = z.natAbs := by show val (digs _) = _; rw [val_digs, Rat.num_intCast]
  have hn : (frK (z : Rat)).neg = decide (z < 0) := by show decide _ = _; rw [Rat.num_intCast]
  unfold intV
  rw [hv, hn]
  have h2 : ¬ 2 < sz z.natAbs := fun h => by have := sz2_big h; omega
  rw [if_neg h2]
  split
  · rename_i h; rw [decide_eq_true_iff] at h; rw [if_pos (by omega)]; omega
  · rename_i h; rw [decide_eq_true_iff] at h; rw [if_pos (by omega)]; omega
theorem wholeQ_int {z : Int} (h : -9223372036854775808 ≤ z) (h2 : z ≤ 9223372036854775807) : wholeQ (z : Rat) = z := by
  unfold wholeQ; rw [Rat.floor_intCast, if_pos ⟨h, h2⟩]
theorem wholeE_int {z : Int} (h : -9223372036854775808 ≤ z) (h2 : z ≤ 9223372036854775807) : wholeE (z : Rat) = 0 := by
  unfold wholeE; rw [Rat.floor_intCast, if_pos ⟨h, h2⟩]
theorem val_drop_step {l : List Nat} {k : Nat} (h0 : 0 < k) (hk : k ≤ l.length) : val (l.drop (k - 1)) = l.getD (k - 1) 0 + B32 * val (l.drop k) := by
  rw [List.drop_eq_getElem_cons (show k - 1 < l.length by omega), show k - 1 + 1 = k by omega, List.getD_eq_getElem?_getD, List.getElem?_eq_getElem (show k - 1 < l.length by omega)]
  rfl
theorem int_step {n k : Nat} (h0 : 0 < k) (hk : k ≤ (digs n).length) (hl : (digs n).length ≤ 2) : val ((digs n).drop k) < 4294967296 := by
  have h1 : Fit ((digs n).drop k) := fun x hx => digs_fit n x (List.mem_of_mem_drop hx)
  have h2 := val_lt h1
  rw [List.length_drop] at h2
  exact Nat.lt_of_lt_of_le h2 (Nat.le_trans (Nat.pow_le_pow_right (by decide) (show (digs n).length - k ≤ 1 by omega)) (by decide))
theorem int_next {n k : Nat} (h0 : 0 < k) (hk : k ≤ (digs n).length) : val ((digs n).drop k) * 2 ^ 32 ||| (digs n).getD (k - 1) 0 = val ((digs n).drop (k - 1)) := by
  have h2 : (digs n).getD (k - 1) 0 < 4294967296 := Fit.getD (digs_fit n) (k - 1)
  rw [or_shift _ _ h2, val_drop_step h0 hk, Nat.mul_comm, Nat.add_comm]; rfl
theorem neg64 {x : Nat} (h : x < 18446744073709551616) : IntKind.u64.wrap (0 - (x : Int)) = (((18446744073709551616 - x) % 18446744073709551616 : Nat) : Int) := by simp [IntKind.wrap, IntKind.bits, IntKind.signed]; omega
theorem wrap_n {f : Fr} {y : Nat} (hy : y = val f.n) (h2 : (digs (val f.n)).length ≤ 2) (h : f.neg = true) : IntKind.i64.wrap (((18446744073709551616 - y) % 18446744073709551616 : Nat) : Int) = intV f := by
  have hx := sz2_lt h2
  subst hy
  unfold intV
  rw [if_neg (show ¬ 2 < sz (val f.n) from Nat.not_lt.2 h2), if_pos h]
  split <;> (simp [IntKind.wrap, IntKind.bits, IntKind.signed]; omega)
theorem wrap_p {f : Fr} {y : Nat} (hy : y = val f.n) (h2 : (digs (val f.n)).length ≤ 2) (h : ¬ f.neg = true) : IntKind.i64.wrap (y : Int) = intV f := by
  have hx := sz2_lt h2
  subst hy
  unfold intV
  rw [if_neg (show ¬ 2 < sz (val f.n) from Nat.not_lt.2 h2), if_neg h]
  split <;> (simp [IntKind.wrap, IntKind.bits, IntKind.signed]; omega)
theorem into_n {f : Fr} {y : Nat} (hy : y = val f.n) (h2 : (digs (val f.n)).length ≤ 2) (h : f.neg = true) : decide (y ≤ 9223372036854775808) = intO f := by
  subst hy; unfold intO; rw [if_neg (show ¬ 2 < sz (val f.n) from Nat.not_lt.2 h2), if_pos h]
theorem into_p {f : Fr} {y : Nat} (hy : y = val f.n) (h2 : (digs (val f.n)).length ≤ 2) (h : ¬ f.neg = true) : decide (y < 9223372036854775808) = intO f := by
  subst hy; unfold intO; rw [if_neg (show ¬ 2 < sz (val f.n) from Nat.not_lt.2 h2), if_neg h]
theorem same_len {l : List Nat} (f : Fit l) (h : (digs (val l)).length = l.length) : digs (val l) = l := by
  rw [digs_val f] at h ⊢
  clear f
  induction l with
  | nil => rfl
  | cons x l ih =>
    unfold trim at h ⊢
    split
    · rename_i hc; rw [if_pos hc] at h; simp at h
    · rename_i hc
      rw [if_neg hc, List.length_cons, List.length_cons] at h
      rw [ih (by omega)]
theorem same_f {f : Fr} {q : Rat} (h : f ≠ frK q) : sameF f (frK q) = false := by
  cases e : sameF f (frK q) with
  | false => rfl
  | true => exact absurd (sameF_iff.1 e) h
theorem digs_one' {n : Nat} (h1 : (digs n).length = 1) (h2 : (digs n).getD 0 0 = 1) : n = 1 := by rw [← digs_one h1, h2]
theorem canon_f {f : Fr} (h : (digs (val f.n)).length ≠ f.n.length ∨ (digs (val f.d)).length ≠ f.d.length ∨ ((digs (val f.d)).length = 1 ∧ (digs (val f.d)).getD 0 0 = 1)) : sameF f (frK f.rat) = false := by
  refine same_f fun e => ?_
  have en : f.n = digs f.rat.num.natAbs := congrArg Fr.n e
  have ed : f.d = if f.rat.den = 1 then [] else digs f.rat.den := congrArg Fr.d e
  rcases h with h | h | h
  · rw [en, val_digs] at h; exact h rfl
  · by_cases h1 : f.rat.den = 1
    · rw [if_pos h1] at ed; rw [ed] at h; exact h (by show (digs 0).length = 0; rw [digs_zero]; rfl)
    · rw [if_neg h1] at ed; rw [ed, val_digs] at h; exact h rfl
  · have h3 := digs_one' h.1 h.2
    by_cases h1 : f.rat.den = 1
    · rw [if_pos h1] at ed; rw [ed] at h3; cases h3
    · rw [if_neg h1] at ed; rw [ed, val_digs] at h3; exact h1 h3
theorem canon_0 {f : Fr} (hfd : Fit f.d) (h : ¬ ((digs (val f.n)).length ≠ f.n.length ∨ (digs (val f.d)).length ≠ f.d.length ∨ ((digs (val f.d)).length = 1 ∧ (digs (val f.d)).getD 0 0 = 1))) (h0 : (digs (val f.n)).length = 0) :
    sameF f (frK f.rat) = (decide ((digs (val f.d)).length = 0) && !f.neg) := by
  have hv : val f.n = 0 := len_zero.1 h0
  have hr : f.rat = 0 := by unfold Fr.rat; rw [hv]; exact ratOf_zero
  have hn : f.n = [] := List.eq_nil_of_length_eq_zero (by omega)
  rw [hr, frK_zero]
  have hd : decide ((digs (val f.d)).length = 0) = decide (f.d = []) := decide_eq_decide.2 (by
    constructor
    · intro e; exact List.eq_nil_of_length_eq_zero (by omega)
    · intro e; rw [e]; show (digs 0).length = 0; rw [digs_zero]; rfl)
  unfold sameF fr0
  rw [hn, hd]
  cases f.neg <;> simp
theorem canon_n {f : Fr} (hfn : Fit f.n) (hfd : Fit f.d) (h : ¬ ((digs (val f.n)).length ≠ f.n.length ∨ (digs (val f.d)).length ≠ f.d.length ∨ ((digs (val f.d)).length = 1 ∧ (digs (val f.d)).getD 0 0 = 1))) (h0 : ¬ (digs (val f.n)).length = 0) :
    sameF f (frK f.rat) = (decide ((digs (val f.d)).length = 0) || decide (Nat.gcd (val f.n) (val f.d) = 1)) := by
  have hv : val f.n ≠ 0 := fun e => h0 (len_zero.2 e)
  have en := same_len hfn (by omega)
  have ed := same_len hfd (by omega)
  have h1 : val f.d ≠ 1 := fun e => h (.inr (.inr (by rw [e, digs_lit1]; exact ⟨rfl, rfl⟩)))
  by_cases hd : val f.d = 0
  · have hdl : (digs (val f.d)).length = 0 := len_zero.2 hd
    rw [decide_eq_true hdl, Bool.true_or, sameF_iff]
    have hg : Nat.gcd (val f.n) 1 = 1 := Nat.gcd_one_right _
    have a1 := ratOf_abs (s := f.neg) (n := val f.n) (d := 1) (by decide)
    have a2 := ratOf_den (s := f.neg) (n := val f.n) (d := 1) (by decide)
    have a3 := ratOf_neg (s := f.neg) (n := val f.n) (d := 1) (by decide)
    rw [hg, Nat.div_one] at a1 a2 a3
    have er : f.rat = ratOf f.neg (val f.n) 1 := (Fr.rat_z hdl).symm
    have : f = ⟨f.neg, f.n, f.d⟩ := rfl
    rw [er]
    unfold frK
    rw [← a1, ← a2, ← a3, if_pos rfl, en]
    have hdn : f.d = [] := by rw [← ed, hd, digs_zero]
    have hp : decide (0 < val f.n) = true := decide_eq_true (Nat.pos_of_ne_zero hv)
    rw [hp, Bool.and_true]
    exact this.trans (by rw [hdn])
  · have hdl : ¬ (digs (val f.d)).length = 0 := fun e => hd (len_zero.1 e)
    rw [decide_eq_false hdl, Bool.false_or]
    have a1 := ratOf_abs (s := f.neg) (n := val f.n) (d := val f.d) hd
    have a2 := ratOf_den (s := f.neg) (n := val f.n) (d := val f.d) hd
    have a3 := ratOf_neg (s := f.neg) (n := val f.n) (d := val f.d) hd
    have er : f.rat = ratOf f.neg (val f.n) (val f.d) := (Fr.rat_nz hdl).symm
    rw [er]
    have hgp := gcd_pos' (n := val f.n) hd
    rw [Bool.eq_iff_iff, sameF_iff, decide_eq_true_iff]
    constructor
    · intro e
      have e1 : f.n = digs (ratOf f.neg (val f.n) (val f.d)).num.natAbs := congrArg Fr.n e
      rw [← a1] at e1
      have e2 := congrArg val e1
      rw [val_digs] at e2
      have hle := Nat.gcd_le_left (val f.d) (Nat.pos_of_ne_zero hv)
      rcases Nat.lt_or_ge 1 (Nat.gcd (val f.n) (val f.d)) with hg | hg
      · have := Nat.div_lt_self (Nat.pos_of_ne_zero hv) hg
        omega
      · omega
    · intro hg
      rw [hg, Nat.div_one] at a1 a2 a3
      unfold frK
      rw [← a1, ← a2, ← a3, if_neg h1, en, ed]
      have hp : decide (0 < val f.n) = true := decide_eq_true (Nat.pos_of_ne_zero hv)
      rw [hp, Bool.and_true]
end Go.Ear
