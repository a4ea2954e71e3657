/- About package frac: NatLaw3. -/
import Derived.Test.YtmidncjhlnfojaaDoorNatLaw2
set_option linter.all false
namespace Go.Ear
theorem N.recast {h : PH} {b : Option Addr} {c m m' : Nat} (e : m = m') (n : N h (.slice b (digs m).length c) m) : N h (.slice b (digs m').length c) m' := by subst e; exact n
theorem U.recast {h : PH} {b : Option Addr} {c : Nat} {m m' : List Nat} (e : m = m') (n : U h (.slice b m.length c) m) : U h (.slice b m'.length c) m' := by subst e; exact n
theorem sz_one : sz 1 = 1 := by unfold sz; rw [digs_pos (by decide)]; simp [B32, digs_zero]
theorem sz_pow (a m : Nat) : sz (a ^ m) ≤ m * sz a + 1 := by
  induction m with
  | zero => simp [sz_one]
  | succ m ih =>
    have h1 := lt_sz a
    have h2 : a ^ (m + 1) ≤ (B32 ^ sz a) ^ (m + 1) := Nat.pow_le_pow_left (Nat.le_of_lt h1) _
    refine sz_le ?_
    refine Nat.lt_of_le_of_lt h2 ?_
    rw [← Nat.pow_mul, Nat.mul_comm]
    exact Nat.pow_lt_pow_right (by decide) (by omega)
theorem pow_bits (n j : Nat) : n / 2 ^ j = 2 * (n / 2 ^ (j + 1)) + n / 2 ^ j % 2 := by
  rw [Nat.pow_succ, ← Nat.div_div_eq_div_mul]; omega
theorem pow_mod (n j : Nat) : n % 2 ^ (j + 1) = n % 2 ^ j + 2 ^ j * (n / 2 ^ j % 2) := by rw [Nat.pow_succ, Nat.mod_mul]
theorem pow_step1 {a n j : Nat} (h : n / 2 ^ j % 2 = 1) : a ^ (n % 2 ^ j) * a ^ 2 ^ j = a ^ (n % 2 ^ (j + 1)) := by rw [← Nat.pow_add, pow_mod, h, Nat.mul_one]
theorem pow_step0 {a n j : Nat} (h : ¬ n / 2 ^ j % 2 = 1) : a ^ (n % 2 ^ j) = a ^ (n % 2 ^ (j + 1)) := by rw [pow_mod, show n / 2 ^ j % 2 = 0 by omega, Nat.mul_zero, Nat.add_zero]
theorem pow_sq (a j : Nat) : a ^ 2 ^ j * a ^ 2 ^ j = a ^ 2 ^ (j + 1) := by rw [← Nat.pow_add, Nat.pow_succ]; congr 1; omega
theorem pow_done {a n j : Nat} (h : n / 2 ^ j = 0) : a ^ (n % 2 ^ j) = a ^ n := by
  rw [Nat.mod_eq_of_lt]
  rcases Nat.div_eq_zero_iff.1 h with h | h
  · exact absurd h (Nat.pos_iff_ne_zero.1 (Nat.pow_pos (by decide)))
  · exact h
theorem sz_sq {a n j B : Nat} (hn : 0 < n / 2 ^ j) (hB : n * sz a + 1 ≤ B) : sz (a ^ 2 ^ j) ≤ B := by
  have h1 := sz_pow a (2 ^ j)
  have h2 : 2 ^ j ≤ n := Nat.le_of_not_lt fun h => by rw [Nat.div_eq_of_lt h] at hn; cases hn
  have := Nat.mul_le_mul_right (sz a) h2
  omega
theorem sz_part {a n j B : Nat} (hB : n * sz a + 1 ≤ B) : sz (a ^ (n % 2 ^ j)) ≤ B := by
  have h1 := sz_pow a (n % 2 ^ j)
  have := Nat.mul_le_mul_right (sz a) (Nat.mod_le n (2 ^ j))
  omega
theorem and_one' (x : Nat) : x &&& 1 = x % 2 := Nat.and_one_is_mod x
theorem sz_shift {a s : Nat} (h : s ≤ 32) : sz (a * 2 ^ s) ≤ sz a + 2 := by
  refine Nat.le_trans (sz_mul _ _) (Nat.add_le_add_left (sz_small (Nat.lt_of_le_of_lt (Nat.pow_le_pow_right (by decide) h) (by decide))) _)
theorem sz_shifted {a k : Nat} : sz (a * B32 ^ k) ≤ sz a + (k + 1) := by
  refine Nat.le_trans (sz_mul _ _) (Nat.add_le_add_left (sz_le (Nat.pow_lt_pow_right (by decide) (by omega))) _)
theorem digs_one {b : Nat} (h : (digs b).length = 1) : (digs b).getD 0 0 = b := by
  have := lt_sz b
  unfold sz at this
  rw [h, Nat.pow_one] at this
  rw [getD_digs, Nat.pow_zero, Nat.div_one, Nat.mod_eq_of_lt this]
theorem top_lt {x y : Nat} (hx : x < 4294967296) (hy : y < 4294967296) : x * 2 ^ 32 ||| y < 18446744073709551616 := by
  rw [or_shift _ _ hy]; have : (2 : Nat) ^ 32 = 4294967296 := rfl; omega
theorem div_lt0 {u v : Nat} (hv : v ≠ 0) (hle : sz v ≤ sz u) : u < v * B32 ^ (sz u - sz v + 1) := by
  refine Nat.lt_of_lt_of_le (lt_sz u) ?_
  have h1 := pow_sz_le hv
  have h2 := sz_pos hv
  calc B32 ^ sz u = B32 ^ (sz v - 1) * B32 ^ (sz u - sz v + 1) := by rw [← Nat.pow_add]; congr 1; omega
    _ ≤ _ := Nat.mul_le_mul_right _ h1
theorem top_digit {v : Nat} (hv : v ≠ 0) : (digs v).getD (sz v - 1) 0 = v / B32 ^ (sz v - 1) := by
  rw [getD_digs, Nat.mod_eq_of_lt]
  refine Nat.div_lt_of_lt_mul ?_
  have := sz_pos hv
  rw [← Nat.pow_succ, show (sz v - 1).succ = sz v by omega]; exact lt_sz v
theorem div_guess {r v j : Nat} (hv : v ≠ 0) (hlt : r < v * B32 ^ (j + 1)) :
    r < (min (((digs r).getD (j + sz v) 0 * 2 ^ 32 ||| (digs r).getD (j + sz v - 1) 0) / (digs v).getD (sz v - 1) 0) 4294967295 + 1) * (v * B32 ^ j) := by
  have hp := sz_pos hv
  rw [or_shift _ _ (Fit.getD (digs_fit r) _), top_digit hv]
  have e32 : (2 : Nat) ^ 32 = B32 := rfl
  have etop : (digs r).getD (j + sz v) 0 * 2 ^ 32 + (digs r).getD (j + sz v - 1) 0 = r / B32 ^ (j + sz v - 1) := by
    rw [e32]
    have h := two_digs r (j + sz v - 1)
    rw [show j + sz v - 1 + 1 = j + sz v by omega, Nat.mod_eq_of_lt] at h
    · have : (4294967296 : Nat) = B32 := rfl
      rw [this] at h; omega
    · refine Nat.div_lt_of_lt_mul ?_
      refine Nat.lt_of_lt_of_le hlt ?_
      calc v * B32 ^ (j + 1) ≤ B32 ^ sz v * B32 ^ (j + 1) := Nat.mul_le_mul_right _ (Nat.le_of_lt (lt_sz v))
        _ = B32 ^ (j + sz v - 1) * (B32 * B32) := by rw [← Nat.pow_add, ← Nat.mul_assoc, ← Nat.pow_succ, ← Nat.pow_succ]; congr 1; omega
  rw [etop]
  have htop : 0 < v / B32 ^ (sz v - 1) := Nat.div_pos (pow_sz_le hv) (Nat.pow_pos B32_pos)
  by_cases h : r / B32 ^ (j + sz v - 1) / (v / B32 ^ (sz v - 1)) ≤ 4294967295
  · rw [Nat.min_eq_left h]
    have h1 := Nat.lt_mul_div_succ (r / B32 ^ (j + sz v - 1)) htop
    generalize r / B32 ^ (j + sz v - 1) / (v / B32 ^ (sz v - 1)) = g at h1 h ⊢
    have h2 := Nat.lt_mul_div_succ r (Nat.pow_pos B32_pos : 0 < B32 ^ (j + sz v - 1))
    refine Nat.lt_of_lt_of_le h2 ?_
    have h3 : r / B32 ^ (j + sz v - 1) + 1 ≤ (g + 1) * (v / B32 ^ (sz v - 1)) := by rw [Nat.mul_comm]; exact h1
    calc B32 ^ (j + sz v - 1) * (r / B32 ^ (j + sz v - 1) + 1) ≤ B32 ^ (j + sz v - 1) * ((g + 1) * (v / B32 ^ (sz v - 1))) := Nat.mul_le_mul_left _ h3
      _ = (g + 1) * ((B32 ^ (sz v - 1) * (v / B32 ^ (sz v - 1))) * B32 ^ j) := by
          rw [show j + sz v - 1 = (sz v - 1) + j by omega, Nat.pow_add]; grind
      _ ≤ _ := Nat.mul_le_mul_left _ (Nat.mul_le_mul_right _ (Nat.mul_div_le ..))
  · rw [Nat.min_eq_right (by omega)]
    have : (4294967295 + 1 : Nat) = B32 := rfl
    rw [this, Nat.mul_left_comm, Nat.mul_comm B32, ← Nat.pow_succ]; exact hlt
theorem div_set {q : List Nat} {u v r j g : Nat} (hj : j < q.length) (hz : q.getD j 0 = 0) (hu : u = val q * v + r) (hle : v * g * B32 ^ j ≤ r) :
    u = val (q.set j g) * v + (r - v * g * B32 ^ j) := by
  have h := val_set q j g hj
  rw [hz] at h
  have : val (q.set j g) * v = val q * v + v * g * B32 ^ j := by rw [show val (q.set j g) = val q + g * B32 ^ j by omega, Nat.add_mul]; grind
  omega
theorem div_next {v r j g : Nat} (hlt : r < (g + 1) * (v * B32 ^ j)) (hle : v * g * B32 ^ j ≤ r) : r - v * g * B32 ^ j < v * B32 ^ j := by
  have : (g + 1) * (v * B32 ^ j) = v * g * B32 ^ j + v * B32 ^ j := by grind
  omega
theorem div_dec {v r j g : Nat} (hg : 0 < g) (hgt : r < v * g * B32 ^ j) : r < (g - 1 + 1) * (v * B32 ^ j) := by
  rw [show g - 1 + 1 = g by omega]
  have : g * (v * B32 ^ j) = v * g * B32 ^ j := by grind
  omega
theorem div_q {a b s q r : Nat} (_hb : b ≠ 0) (hu : a * 2 ^ s = q * (b * 2 ^ s) + r) (hr : r < b * 2 ^ s) : q = a / b ∧ r / 2 ^ s = a % b := by
  have hs : 0 < 2 ^ s := Nat.pow_pos (by decide)
  have h1 : a * 2 ^ s / (b * 2 ^ s) = q := by
    rw [hu, Nat.add_comm, Nat.add_mul_div_right _ _ (by omega), Nat.div_eq_of_lt hr, Nat.zero_add]
  have h2 : a * 2 ^ s % (b * 2 ^ s) = r := by
    rw [hu, Nat.add_comm, Nat.add_mul_mod_self_right, Nat.mod_eq_of_lt hr]
  rw [Nat.mul_div_mul_right _ _ hs] at h1
  rw [Nat.mul_mod_mul_right] at h2
  exact ⟨h1.symm, by rw [← h2, Nat.mul_div_cancel _ hs]⟩
end Go.Ear
