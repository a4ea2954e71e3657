/- P14: a part of the proofs about package model: how the program's functions run, and what they compute, for every input. -/
import Derived.Test.YtpmndikbfalfoaaGreatPB
set_option linter.all false
set_option linter.unusedVariables false
namespace Go.Ear
def prodTo (f : Nat → Rat) : Nat → Rat
  | 0 => 1
  | n + 1 => prodTo f n * f n
theorem prodTo_congr {f g : Nat → Rat} : ∀ n, (∀ i, i < n → f i = g i) → prodTo f n = prodTo g n
  | 0, _ => rfl
  | n + 1, h => by rw [prodTo, prodTo, prodTo_congr n fun i hi => h i (by omega), h n (by omega)]
theorem prodTo_nn {f : Nat → Rat} : ∀ n, (∀ i, i < n → 0 ≤ f i) → 0 ≤ prodTo f n
  | 0, _ => by show (0 : Rat) ≤ 1; decide +kernel
  | n + 1, h => Rat.mul_nonneg (prodTo_nn n fun i hi => h i (by omega)) (h n (by omega))
theorem prodTo_one {f : Nat → Rat} : ∀ n, (∀ i, i < n → f i = 1) → prodTo f n = 1
  | 0, _ => rfl
  | n + 1, h => by rw [prodTo, prodTo_one n fun i hi => h i (by omega), h n (by omega), Rat.mul_one]
theorem prodTo_mul (f g : Nat → Rat) : ∀ n, prodTo (fun i => f i * g i) n = prodTo f n * prodTo g n
  | 0 => by show (1 : Rat) = 1 * 1; rw [Rat.mul_one]
  | n + 1 => by rw [prodTo, prodTo, prodTo, prodTo_mul f g n]; grind
theorem mul_le_mul2 {a b c d : Rat} (ha : 0 ≤ a) (hc : 0 ≤ c) (h1 : a ≤ b) (h2 : c ≤ d) : a * c ≤ b * d :=
  Rat.le_trans (Rat.mul_le_mul_of_nonneg_right h1 hc) (Rat.mul_le_mul_of_nonneg_left h2 (Rat.le_trans ha h1))
theorem prodTo_le {f g : Nat → Rat} : ∀ n, (∀ i, i < n → 0 ≤ f i ∧ f i ≤ g i) → prodTo f n ≤ prodTo g n
  | 0, _ => Rat.le_refl
  | n + 1, h => mul_le_mul2 (prodTo_nn n fun i hi => (h i (by omega)).1) (h n (by omega)).1 (prodTo_le n fun i hi => h i (by omega)) (h n (by omega)).2
theorem prodTo_swap (f : Nat → Nat → Rat) (m : Nat) : ∀ n, prodTo (fun i => prodTo (f i) m) n = prodTo (fun j => prodTo (fun i => f i j) n) m
  | 0 => by rw [prodTo]; exact (prodTo_one m fun _ _ => rfl).symm
  | n + 1 => by rw [prodTo, prodTo_swap f m n, ← prodTo_mul]; rfl
theorem pw_mul (a b : Rat) : ∀ n : Nat, (a * b) ^ n = a ^ n * b ^ n
  | 0 => by rw [Rat.pow_zero, Rat.pow_zero, Rat.pow_zero, Rat.mul_one]
  | n + 1 => by rw [Rat.pow_succ, Rat.pow_succ, Rat.pow_succ, pw_mul a b n]; grind
theorem pw_add (a : Rat) (m : Nat) : ∀ n : Nat, a ^ (m + n) = a ^ m * a ^ n
  | 0 => by rw [Nat.add_zero, Rat.pow_zero, Rat.mul_one]
  | n + 1 => by rw [← Nat.add_assoc, Rat.pow_succ, pw_add a m n, Rat.pow_succ, Rat.mul_assoc]
theorem on_pow : ∀ n : Nat, (1 : Rat) ^ n = 1
  | 0 => Rat.pow_zero _
  | n + 1 => by rw [Rat.pow_succ, on_pow n, Rat.mul_one]
theorem zr_pow {n : Nat} (h : n ≠ 0) : (0 : Rat) ^ n = 0 := by
  cases n with
  | zero => exact absurd rfl h
  | succ n => rw [Rat.pow_succ, Rat.mul_zero]
theorem pow_le_pow {a b : Rat} (ha : 0 ≤ a) (h : a ≤ b) : ∀ n : Nat, a ^ n ≤ b ^ n
  | 0 => by rw [Rat.pow_zero, Rat.pow_zero]; exact Rat.le_refl
  | n + 1 => by rw [Rat.pow_succ, Rat.pow_succ]; exact mul_le_mul2 (Rat.pow_nonneg ha) ha (pow_le_pow ha h n) h
def sumNat (w : Nat → Nat) : Nat → Nat
  | 0 => 0
  | n + 1 => sumNat w n + w n
theorem pow_sumNat (a : Rat) (w : Nat → Nat) : ∀ n, prodTo (fun i => a ^ w i) n = a ^ sumNat w n
  | 0 => (Rat.pow_zero _).symm
  | n + 1 => by rw [prodTo, sumNat, pow_sumNat a w n, pw_add]
theorem bern {t : Rat} (ht : 0 ≤ 1 + t) : ∀ n : Nat, 1 + (n : Rat) * t ≤ (1 + t) ^ n
  | 0 => by rw [Rat.pow_zero]; show 1 + (0 : Rat) * t ≤ 1; rw [Rat.zero_mul, Rat.add_zero]; exact Rat.le_refl
  | n + 1 => by
    have ih := Rat.mul_le_mul_of_nonneg_right (bern ht n) ht
    rw [Rat.pow_succ]
    refine Rat.le_trans ?_ ih
    have h1 : (0 : Rat) ≤ (n : Rat) := Rat.natCast_nonneg
    have h2 : (0 : Rat) ≤ t * t := by
      by_cases h : 0 ≤ t
      · exact Rat.mul_nonneg h h
      · have h3 : 0 ≤ -t := by grind
        have := Rat.mul_nonneg h3 h3
        grind
    have h4 := Rat.mul_nonneg h1 h2
    have h5 : ((n + 1 : Nat) : Rat) = (n : Rat) + 1 := Rat.natCast_add n 1
    rw [h5]
    grind
theorem amgm1 {a x : Rat} (ha : 0 < a) (hx : 0 ≤ x) (n : Nat) : a ^ n * x ≤ (((n : Rat) * a + x) / ((n : Rat) + 1)) ^ (n + 1) := by
  have hn : (0 : Rat) < (n : Rat) + 1 := by
    have : (0 : Rat) ≤ (n : Rat) := Rat.natCast_nonneg
    grind
  have hn0 : (n : Rat) + 1 ≠ 0 := by grind
  have ha0 : a ≠ 0 := by grind
  have hz : ∃ t : Rat, 0 ≤ 1 + t ∧ ((n : Rat) * a + x) / ((n : Rat) + 1) = a * (1 + t) ∧ 1 + ((n : Rat) + 1) * t = x / a := by
    refine ⟨(x / a - 1) / ((n : Rat) + 1), ?_, ?_, ?_⟩
    · have h1 : 1 + (x / a - 1) / ((n : Rat) + 1) = ((n : Rat) + x / a) * ((n : Rat) + 1)⁻¹ := by
        rw [Rat.div_def]
        have := Rat.mul_inv_cancel _ hn0
        grind
      rw [h1]
      refine Rat.mul_nonneg ?_ (Rat.le_of_lt (Rat.inv_pos.2 hn))
      have h2 : 0 ≤ x / a := by rw [Rat.div_def]; exact Rat.mul_nonneg hx (Rat.le_of_lt (Rat.inv_pos.2 ha))
      have : (0 : Rat) ≤ (n : Rat) := Rat.natCast_nonneg
      grind
    · rw [Rat.div_def, Rat.div_def, Rat.div_def]
      have h1 := Rat.mul_inv_cancel _ hn0
      have h2 := Rat.mul_inv_cancel _ ha0
      grind
    · rw [Rat.div_def, Rat.div_def]
      have h1 := Rat.mul_inv_cancel _ hn0
      grind
  obtain ⟨t, h1, h2, h3⟩ := hz
  rw [h2, pw_mul]
  have hb := bern h1 (n + 1)
  have hc : ((n + 1 : Nat) : Rat) = (n : Rat) + 1 := Rat.natCast_add n 1
  rw [hc, h3] at hb
  have h4 := Rat.mul_le_mul_of_nonneg_left hb (Rat.le_of_lt (Rat.pow_pos (n := n + 1) ha))
  have e : a ^ n * x = a ^ (n + 1) * (x / a) := by
    rw [Rat.pow_succ, Rat.div_def]
    have h5 := Rat.mul_inv_cancel _ ha0
    grind
  rw [e]; exact h4
theorem mean_step {W : Nat} {S P x : Rat} (hS : 0 ≤ S) (hP : 0 ≤ P) (hx : 0 ≤ x) (h : (W : Rat) ^ W * P ≤ S ^ W) : ((W + 1 : Nat) : Rat) ^ (W + 1) * (P * x) ≤ (S + x) ^ (W + 1) := by
  by_cases hW : W = 0
  · subst hW
    rw [Rat.pow_zero, Rat.pow_zero, Rat.one_mul] at h
    rw [Nat.zero_add, Rat.pow_one, Rat.pow_one, show ((1 : Nat) : Rat) = 1 from rfl, Rat.one_mul]
    have := Rat.mul_le_mul_of_nonneg_right h hx
    grind
  · have hWp : (0 : Rat) < (W : Rat) := Rat.natCast_pos.2 (by omega)
    have hW0 : (W : Rat) ≠ 0 := by grind
    by_cases hS0 : S = 0
    · rw [hS0, zr_pow hW] at h
      have hp := Rat.pow_pos (n := W) hWp
      have hP0 : P = 0 := by
        by_cases e : P = 0
        · exact e
        · have h1 : 0 < P := by grind
          have := Rat.mul_pos hp h1
          grind
      rw [hP0, Rat.zero_mul, Rat.mul_zero]
      exact Rat.pow_nonneg (by grind)
    · have hSp : 0 < S := by grind
      have ha : 0 < S / (W : Rat) := by rw [Rat.div_def]; exact Rat.mul_pos hSp (Rat.inv_pos.2 hWp)
      have h1 := amgm1 ha hx W
      have e1 : (W : Rat) * (S / (W : Rat)) = S := by
        rw [Rat.div_def]; have := Rat.mul_inv_cancel _ hW0; grind
      rw [e1] at h1
      have h2 : P ≤ (S / (W : Rat)) ^ W := by
        have hp := Rat.pow_pos (n := W) hWp
        have e2 : (W : Rat) ^ W * (S / (W : Rat)) ^ W = S ^ W := by rw [← pw_mul, e1]
        rw [← e2] at h
        exact Rat.le_of_mul_le_mul_left h hp
      have h3 := Rat.le_trans (Rat.mul_le_mul_of_nonneg_right h2 hx) h1
      have hc : ((W + 1 : Nat) : Rat) = (W : Rat) + 1 := Rat.natCast_add W 1
      rw [hc]
      have hq : (0 : Rat) < (W : Rat) + 1 := by grind
      have hq0 : (W : Rat) + 1 ≠ 0 := by grind
      have h4 := Rat.mul_le_mul_of_nonneg_left h3 (Rat.le_of_lt (Rat.pow_pos (n := W + 1) hq))
      rw [← pw_mul, show ((W : Rat) + 1) * ((S + x) / ((W : Rat) + 1)) = S + x by rw [Rat.div_def]; have := Rat.mul_inv_cancel _ hq0; grind] at h4
      exact h4
theorem mean_many {W : Nat} {S P x : Rat} (hS : 0 ≤ S) (hP : 0 ≤ P) (hx : 0 ≤ x) (h : (W : Rat) ^ W * P ≤ S ^ W) : ∀ w : Nat, ((W + w : Nat) : Rat) ^ (W + w) * (P * x ^ w) ≤ (S + (w : Rat) * x) ^ (W + w)
  | 0 => by
    rw [Rat.pow_zero, Rat.mul_one, Nat.add_zero, show ((0 : Nat) : Rat) = 0 from rfl, Rat.zero_mul, Rat.add_zero]; exact h
  | w + 1 => by
    have ih := mean_many hS hP hx h w
    have h0 : (0 : Rat) ≤ (w : Rat) := Rat.natCast_nonneg
    have := mean_step (W := W + w) (S := S + (w : Rat) * x) (P := P * x ^ w) (x := x) (by have := Rat.mul_nonneg h0 hx; grind) (Rat.mul_nonneg hP (Rat.pow_nonneg hx)) hx ih
    rw [← Nat.add_assoc, Rat.pow_succ x w, ← Rat.mul_assoc P]
    have e : S + ((w + 1 : Nat) : Rat) * x = S + (w : Rat) * x + x := by
      rw [show ((w + 1 : Nat) : Rat) = (w : Rat) + 1 from Rat.natCast_add w 1]; grind
    rw [e]
    exact this
theorem amgm {x : Nat → Rat} {w : Nat → Nat} : ∀ n, (∀ i, i < n → 0 ≤ x i) → ((sumNat w n : Nat) : Rat) ^ sumNat w n * prodTo (fun i => x i ^ w i) n ≤ (sumTo (fun i => ((w i : Nat) : Rat) * x i) n) ^ sumNat w n ∧ 0 ≤ sumTo (fun i => ((w i : Nat) : Rat) * x i) n ∧ 0 ≤ prodTo (fun i => x i ^ w i) n
  | 0, _ => ⟨by
      show ((0 : Nat) : Rat) ^ 0 * 1 ≤ _ ^ 0
      rw [Rat.pow_zero, Rat.pow_zero, Rat.mul_one]; exact Rat.le_refl, Rat.le_refl, by show (0 : Rat) ≤ 1; decide +kernel⟩
  | n + 1, h => by
    obtain ⟨h1, h2, h3⟩ := amgm (x := x) (w := w) n fun i hi => h i (by omega)
    have hx := h n (by omega)
    exact ⟨mean_many h2 h3 hx h1 (w n), by
      have := Rat.mul_nonneg (Rat.natCast_nonneg (a := w n)) hx
      show 0 ≤ _ + _
      grind, Rat.mul_nonneg h3 (Rat.pow_nonneg hx)⟩
theorem amgm_le {x : Nat → Rat} {w : Nat → Nat} {n : Nat} {B : Rat} (h : ∀ i, i < n → 0 ≤ x i) (hB : sumTo (fun i => ((w i : Nat) : Rat) * x i) n ≤ B) : ((sumNat w n : Nat) : Rat) ^ sumNat w n * prodTo (fun i => x i ^ w i) n ≤ B ^ sumNat w n := by
  obtain ⟨h1, h2, _⟩ := amgm (x := x) (w := w) n h
  exact Rat.le_trans h1 (pow_le_pow h2 hB _)
end Go.Ear
