/- About package frac: EarApi. -/
import Derived.Test.YtmidncjhlnfojaaDoorEarDec
set_option linter.all false
namespace Go.Ear
theorem num_neg_iff {q : Rat} : q.num < 0 ↔ q < 0 := by
  have := Rat.num_nonneg (q := q)
  rw [← Rat.not_le, ← this]; omega
theorem num_pos_iff {q : Rat} : 0 < q.num ↔ 0 < q := by
  have h1 := Rat.num_nonneg (q := -q)
  rw [Rat.neg_num] at h1
  rw [← Rat.not_le]
  constructor
  · intro h h2
    have : 0 ≤ -q := by grind
    have := h1.2 this
    omega
  · intro h
    have : ¬ 0 ≤ -q.num := fun h3 => h (by have := h1.1 h3; grind)
    omega
theorem sgQ_neg {q : Rat} : sgQ q < 0 ↔ q < 0 := by
  unfold sgQ
  by_cases h : q = 0
  · subst h; simp
  · rw [if_neg h, ← num_neg_iff]
    split <;> simp_all
theorem sgQ_pos {q : Rat} : 0 < sgQ q ↔ 0 < q := by
  unfold sgQ
  by_cases h : q = 0
  · subst h; simp
  · rw [if_neg h]
    have h2 : q.num ≠ 0 := fun e => h (Rat.num_eq_zero.1 e)
    rw [← num_pos_iff]
    split
    · omega
    · omega
theorem sgQ_zero {q : Rat} : sgQ q = 0 ↔ q = 0 := by
  unfold sgQ
  by_cases h : q = 0
  · simp [h]
  · rw [if_neg h]; simp only [h, iff_false]; split <;> decide
def negF (f : Fr) : Bool := decide (f.rat < 0)
def idxP {α : Type} (p : α → Bool) (l : List α) : Int := if l.any p = true then (l.findIdx p : Int) else -1
theorem idx_found {α : Type} {p : α → Bool} {l : List α} {k : Nat} (d : α) (hk : k < l.length) (hn : (l.take k).any p = false) (hp : p (l.getD k d) = true) : idxP p l = k := by
  have h1 : l.any p = true := by
    rw [List.any_eq_true]
    refine ⟨l.getD k d, ?_, hp⟩
    rw [List.getD_eq_getElem?_getD, List.getElem?_eq_getElem hk]; exact List.getElem_mem hk
  unfold idxP
  rw [if_pos h1]
  congr 1
  rw [List.findIdx_eq hk]
  refine ⟨?_, ?_⟩
  · rwa [List.getD_eq_getElem?_getD, List.getElem?_eq_getElem hk] at hp
  · intro j hj
    have := List.any_eq_false.1 hn (l[j]) (by rw [List.mem_take_iff_getElem]; exact ⟨j, by omega, rfl⟩)
    simpa using this
theorem idx_none {α : Type} {p : α → Bool} {l : List α} {k : Nat} (hk : l.length ≤ k) (hn : (l.take k).any p = false) : idxP p l = -1 := by
  rw [List.take_of_length_le hk] at hn
  unfold idxP; rw [hn]; rfl
theorem any_take_succ {α : Type} {p : α → Bool} {l : List α} {k : Nat} (d : α) (hk : k < l.length) (hn : (l.take k).any p = false) (hp : p (l.getD k d) = false) : (l.take (k + 1)).any p = false := by
  rw [take_snoc d hk, List.any_append, hn, List.any_cons, hp]; rfl
theorem idx_any {α : Type} {p : α → Bool} {l : List α} : decide (0 ≤ idxP p l) = l.any p := by
  unfold idxP
  cases h : l.any p
  · rfl
  · rw [if_pos rfl]; simp
theorem idx_bd {α : Type} (p : α → Bool) (l : List α) : -1 ≤ idxP p l ∧ idxP p l ≤ l.length := by
  unfold idxP
  split
  · have := List.findIdx_le_length (xs := l) (p := p); omega
  · omega
def bestAt (l : List Fr) : Nat → Int
  | 0 => -1
  | k + 1 => if bestAt l k < 0 ∨ (l.getD (bestAt l k).toNat fr0).rat < (l.getD k fr0).rat then (k : Int) else bestAt l k
theorem bestAt_bd (l : List Fr) : ∀ k : Nat, -1 ≤ bestAt l k ∧ bestAt l k < k
  | 0 => by simp [bestAt]
  | k + 1 => by
    have := bestAt_bd l k
    unfold bestAt
    split <;> omega
def distF (l : List Fr) : Bool := !l.any negF && decide (sumF l = 1)
def normF (l : List Fr) : List Rat := if l.any negF = true ∨ sumF l = 0 then [] else l.map fun f => f.rat * (sumF l)⁻¹
def normE (l : List Fr) : Int := if l.any negF = true then 2 else if sumF l = 0 then 3 else 0
theorem sgQ_sub_one {q : Rat} : sgQ (q - 1) = 0 ↔ q = 1 := by rw [sgQ_zero]; constructor <;> intro h <;> grind
theorem map_take_succ {α β : Type} {f : α → β} {l : List α} {k : Nat} (d : α) (hk : k < l.length) : (l.take (k + 1)).map f = (l.take k).map f ++ [f (l.getD k d)] := by
  rw [take_snoc d hk]; simp
theorem num_pow (q : Rat) (n : Nat) : (q ^ n).num = q.num ^ n := by simp [Rat.num_pow]
theorem den_pow (q : Rat) (n : Nat) : (q ^ n).den = q.den ^ n := by simp [Rat.den_pow]
theorem pow_abs (q : Rat) (n : Nat) : q.num.natAbs ^ n = (q ^ n).num.natAbs := by rw [num_pow, Int.natAbs_pow]
theorem pow_sign (q : Rat) (n : Nat) : (decide (q.num < 0) && decide (n % 2 = 1)) = decide ((q ^ n).num < 0) := by
  rw [num_pow]
  have key : ∀ n : Nat, (q.num ^ n < 0) ↔ (q.num < 0 ∧ n % 2 = 1) := by
    intro n
    by_cases h : q.num < 0
    · have h2 : ∀ m : Nat, 0 < q.num ^ (2 * m) := by
        intro m
        rw [Int.pow_mul]
        exact Int.pow_pos (by rw [Int.pow_succ, Int.pow_one] ; exact Int.mul_pos_of_neg_of_neg h h)
      rcases Nat.mod_two_eq_zero_or_one n with h3 | h3
      · have e : n = 2 * (n / 2) := by omega
        have := h2 (n / 2)
        rw [← e] at this
        constructor
        · intro hh; omega
        · intro hh; omega
      · have e : n = 2 * (n / 2) + 1 := by omega
        have := h2 (n / 2)
        rw [e, Int.pow_succ]
        constructor
        · intro _; exact ⟨h, by omega⟩
        · intro _; exact Int.mul_neg_of_pos_of_neg this h
    · have : 0 ≤ q.num ^ n := Int.pow_nonneg (by omega)
      constructor <;> intro hh <;> omega
  rw [Bool.eq_iff_iff]
  simp only [Bool.and_eq_true, decide_eq_true_eq]
  exact (key n).symm
theorem bq_pow (q : Rat) (n : Nat) : bq (q ^ n) ≤ n * bq q + 1 := by
  unfold bq
  rw [← pow_abs, den_pow]
  have h1 := sz_pow q.num.natAbs n
  have h2 := sz_pow q.den n
  have h3 := Nat.mul_le_mul_left n (bq_num q)
  have h4 := Nat.mul_le_mul_left n (bq_den q)
  unfold bq at h3 h4
  omega
end Go.Ear
namespace Go.Ear
theorem rat_sub_pos {a b : Rat} : 0 < a - b ↔ b < a := by constructor <;> intro h <;> grind
theorem bestAt_succ (l : List Fr) (k : Nat) : bestAt l (k + 1) = if bestAt l k < 0 ∨ (l.getD (bestAt l k).toNat fr0).rat < (l.getD k fr0).rat then (k : Int) else bestAt l k := rfl
theorem bestAt_zero (l : List Fr) : bestAt l 0 = -1 := rfl
attribute [irreducible] bestAt
theorem one_cast : (((1 : Nat) : Int) : Rat) = 1 := rfl
theorem dist_f {l : List Fr} (h : l.any negF = true) : false = distF l := by unfold distF; rw [h]; rfl
theorem dist_t {l : List Fr} (h : ¬ l.any negF = true) : decide (sgQ (sumF l - (((1 : Nat) : Int) : Rat)) = ((0 : Nat) : Int)) = distF l := by
  unfold distF
  rw [Bool.not_eq_true] at h
  rw [h, Bool.not_false, Bool.true_and, one_cast]
  exact decide_eq_decide.2 sgQ_sub_one
theorem zpow0 {k : Nat} (h : k ≠ 0) : (0 : Rat) = 0 ^ k := by
  cases k with
  | zero => exact absurd rfl h
  | succ k => rw [Rat.pow_succ, Rat.mul_zero]
theorem decimal_of {q : Rat} {p : Nat} (h : p ≤ 1000) : decimalQ q (p : Int) = (if q.num < 0 ∧ decN q p ≠ 0 then [45] else []) ++ dotT p (padT p (decT (decN q p))) := by
  unfold decimalQ; rw [if_neg (by omega), Int.toNat_natCast]
theorem dotT_pos {p : Nat} {s : List UInt8} (h : p ≠ 0) : dotT p s = s.take (s.length - p) ++ [46] ++ s.drop (s.length - p) := by
  unfold dotT; rw [if_neg h]; simp
theorem dotT_zero {p : Nat} {s : List UInt8} (h : p = 0) : dotT p s = s := by unfold dotT; rw [if_pos h]
theorem dec_neg {q : Rat} {p : Nat} {s t : List UInt8} (h : p ≤ 1000) (hc : (q.num < 0) ∧ (0 < (digs ((q.num.natAbs * 10 ^ p * 2 + q.den) / (q.den * 2))).length)) (hs : padT p (decT (decN q p)) = s) (ht : t = dotT p s) : [45] ++ t = decimalQ q (p : Int) := by
  rw [decimal_of h, hs, ← ht, if_pos ⟨hc.1, Nat.pos_iff_ne_zero.1 (len_pos.1 hc.2)⟩]
theorem dec_nonneg {q : Rat} {p : Nat} {s t : List UInt8} (h : p ≤ 1000) (hc : ¬ ((q.num < 0) ∧ (0 < (digs ((q.num.natAbs * 10 ^ p * 2 + q.den) / (q.den * 2))).length))) (hs : padT p (decT (decN q p)) = s) (ht : t = dotT p s) : t = decimalQ q (p : Int) := by
  rw [decimal_of h, hs, ← ht, if_neg (fun e => hc ⟨e.1, len_pos.2 (Nat.pos_of_ne_zero e.2)⟩)]; rfl
end Go.Ear
