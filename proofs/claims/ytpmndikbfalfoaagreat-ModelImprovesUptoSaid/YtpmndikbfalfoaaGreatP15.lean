/- P15: a part of the proofs about package model: how the program's functions run, and what they compute, for every input. -/
import Derived.Test.YtpmndikbfalfoaaGreatPB
import Derived.Test.YtpmndikbfalfoaaGreatP14
set_option linter.all false
set_option linter.unusedVariables false
namespace Go.Ear
theorem sumNat_le (w : Nat → Nat) : ∀ {n i : Nat}, i < n → w i ≤ sumNat w n
  | n + 1, i, h => by
    rw [sumNat]
    by_cases e : i = n
    · subst e; omega
    · have := sumNat_le w (n := n) (i := i) (by omega); omega
theorem nc_inj {a b : Nat} (h : (a : Rat) = (b : Rat)) : a = b := by exact_mod_cast h
theorem mul_z {a b : Rat} (h : a * b = 0) (hb : b ≠ 0) : a = 0 := by
  have h1 : a * b * b⁻¹ = 0 * b⁻¹ := by rw [h]
  rw [Rat.mul_assoc, Rat.mul_inv_cancel _ hb, Rat.mul_one, Rat.zero_mul] at h1; exact h1
theorem jensen {y p : Nat → Rat} {w : Nat → Nat} {n W : Nat} {q Z : Rat} (hW : sumNat w n = W) (hy : ∀ i, i < n → 0 ≤ y i) (hp : ∀ i, i < n → 0 ≤ p i) (hq : W ≠ 0 → 0 < q) (hw : ∀ i, i < n → ((w i : Nat) : Rat) * q = (W : Rat) * p i) (hZ : sumTo y n ≤ Z) : prodTo (fun i => (y i / p i) ^ w i) n ≤ (Z / q) ^ W := by
  by_cases h0 : W = 0
  · have e : prodTo (fun i => (y i / p i) ^ w i) n = 1 := prodTo_one n fun i hi => by
      have := sumNat_le w hi
      rw [show w i = 0 by omega, Rat.pow_zero]
    rw [e, h0, Rat.pow_zero]; exact Rat.le_refl
  · have q0 := hq h0
    have qn : q ≠ 0 := by grind
    have hWp : (0 : Rat) < (W : Rat) := Rat.natCast_pos.2 (by omega)
    have qi := Rat.le_of_lt (Rat.inv_pos.2 q0)
    have h1 : sumTo (fun i => ((w i : Nat) : Rat) * (y i / p i)) n ≤ (W : Rat) * (Z / q) := by
      have e : sumTo (fun i => (W : Rat) * (y i / q)) n = (W : Rat) * (sumTo y n / q) := by rw [← sumTo_divc]; exact sumTo_mul n
      have e2 : (W : Rat) * (sumTo y n / q) ≤ (W : Rat) * (Z / q) := by
        refine Rat.mul_le_mul_of_nonneg_left ?_ (Rat.le_of_lt hWp)
        rw [Rat.div_def, Rat.div_def]; exact Rat.mul_le_mul_of_nonneg_right hZ qi
      refine Rat.le_trans ?_ e2
      rw [← e]
      refine sumTo_le n fun i hi => ?_
      have hwi := hw i hi
      have yq : 0 ≤ y i / q := by rw [Rat.div_def]; exact Rat.mul_nonneg (hy i hi) qi
      by_cases hp0 : p i = 0
      · rw [hp0, Rat.mul_zero] at hwi
        rw [mul_z hwi qn, Rat.zero_mul]; exact Rat.mul_nonneg (Rat.le_of_lt hWp) yq
      · have h2 : ((w i : Nat) : Rat) * (y i / p i) = (W : Rat) * (y i / q) := by
          have c1 := Rat.mul_inv_cancel _ hp0
          have c2 := Rat.mul_inv_cancel _ qn
          rw [Rat.div_def, Rat.div_def]
          have h3 : ((w i : Nat) : Rat) = (W : Rat) * p i * q⁻¹ := by rw [← hwi, Rat.mul_assoc, c2, Rat.mul_one]
          rw [h3]; grind
        rw [h2]; exact Rat.le_refl
    have h2 := amgm_le (x := fun i => y i / p i) (w := w) (n := n) (fun i hi => by
      rw [Rat.div_def]; exact Rat.mul_nonneg (hy i hi) (inv_nn (hp i hi))) h1
    rw [hW, pw_mul] at h2
    exact Rat.le_of_mul_le_mul_left h2 (Rat.pow_pos hWp)
theorem one_le_pow {a : Rat} (h : 1 ≤ a) (n : Nat) : 1 ≤ a ^ n := by
  have := pow_le_pow (show (0 : Rat) ≤ 1 by decide +kernel) h n
  rw [on_pow] at this; exact this
theorem pow_one_eq {a : Rat} (h : 1 ≤ a) {n : Nat} (hn : n ≠ 0) (h1 : a ^ n ≤ 1) : a = 1 := by
  obtain ⟨k, rfl⟩ : ∃ k, n = k + 1 := ⟨n - 1, by omega⟩
  rw [Rat.pow_succ] at h1
  have h2 := Rat.mul_le_mul_of_nonneg_right (one_le_pow h k) (show 0 ≤ a by grind)
  rw [Rat.one_mul] at h2
  exact Rat.le_antisymm (Rat.le_trans h2 h1) h
theorem prodTo_ge {f : Nat → Rat} : ∀ {n : Nat}, (∀ i, i < n → 1 ≤ f i) → 1 ≤ prodTo f n ∧ ∀ i, i < n → f i ≤ prodTo f n
  | 0, _ => ⟨Rat.le_refl, fun i hi => by omega⟩
  | n + 1, h => by
    obtain ⟨h1, h2⟩ := prodTo_ge (n := n) fun i hi => h i (by omega)
    have h3 := h n (by omega)
    have h4 : f n ≤ prodTo f n * f n := by
      have := Rat.mul_le_mul_of_nonneg_right h1 (show 0 ≤ f n by grind)
      rw [Rat.one_mul] at this; exact this
    have h5 : prodTo f n ≤ prodTo f n * f n := by
      have := Rat.mul_le_mul_of_nonneg_left h3 (show 0 ≤ prodTo f n by grind)
      rw [Rat.mul_one] at this; exact this
    rw [prodTo]
    refine ⟨Rat.le_trans h1 h5, fun i hi => ?_⟩
    by_cases e : i = n
    · subst e; exact h4
    · exact Rat.le_trans (h2 i (by omega)) h5
theorem whN_zero (D : Nat) : whN D 0 = 0 := by unfold whN; rw [Rat.zero_mul]; rfl
theorem whN_nz {D : Nat} {q : Rat} (h : whN D q ≠ 0) : q ≠ 0 := fun e => h (by rw [e, whN_zero])
theorem whN_add {D : Nat} {p q : Rat} (h : Wh D p) (k : Wh D q) (hp : 0 ≤ p) (hq : 0 ≤ q) : whN D (p + q) = whN D p + whN D q := by
  apply nc_inj
  rw [← whN_eq (h.add k) (Rat.add_nonneg hp hq), Rat.natCast_add, ← whN_eq h hp, ← whN_eq k hq, Rat.add_mul]
theorem whN_sum {D : Nat} {f : Nat → Rat} : ∀ {n : Nat}, (∀ i, i < n → Wh D (f i)) → (∀ i, i < n → 0 ≤ f i) → sumNat (fun i => whN D (f i)) n = whN D (sumTo f n)
  | 0, _, _ => (whN_zero D).symm
  | n + 1, h, k => by
    rw [sumNat, whN_sum (n := n) (fun i hi => h i (by omega)) (fun i hi => k i (by omega)), sumTo_succ, whN_add (Wh.sum n fun i hi => h i (by omega)) (h n (by omega)) (sumTo_nonneg n fun i hi => k i (by omega)) (k n (by omega))]
theorem gibbs {o v x : Nat → Rat} {n N : Nat} {T : Rat} (hN : 0 < N) (ho : ∀ i, i < n → 0 ≤ o i) (hx : ∀ i, i < n → 0 ≤ x i) (hw : ∀ i, i < n → Wh N (x i)) (hT : sumTo x n = T) (hs : sumTo o n = 1) (hz : ∀ i, i < n → o i = 0 → x i = 0) (hv : ∀ i, i < n → v i = if T = 0 then o i else x i / T) : 1 ≤ prodTo (fun i => (v i / o i) ^ whN N (x i)) n ∧ (prodTo (fun i => (v i / o i) ^ whN N (x i)) n ≤ 1 → ∀ i, i < n → v i = o i) := by
  by_cases hT0 : T = 0
  · have hx0 := sumTo_zero_all hx (hT.trans hT0)
    have e : prodTo (fun i => (v i / o i) ^ whN N (x i)) n = 1 := prodTo_one n fun i hi => by rw [hx0 i hi, whN_zero, Rat.pow_zero]
    rw [e]
    exact ⟨Rat.le_refl, fun _ i hi => by rw [hv i hi, if_pos hT0]⟩
  · have T0 : 0 ≤ T := by rw [← hT]; exact sumTo_nonneg n hx
    have Tp : 0 < T := by grind
    have Ti := Rat.le_of_lt (Rat.inv_pos.2 Tp)
    have hv' : ∀ i, i < n → v i = x i / T := fun i hi => by rw [hv i hi, if_neg hT0]
    have hvn : ∀ i, i < n → 0 ≤ v i := fun i hi => by rw [hv' i hi, Rat.div_def]; exact Rat.mul_nonneg (hx i hi) Ti
    have hvs : sumTo v n = 1 := by
      rw [sumTo_congr n hv', sumTo_divc, hT, Rat.div_def, Rat.mul_inv_cancel _ hT0]
    have h2 : (2 : Rat)⁻¹ + (2 : Rat)⁻¹ = 1 := by decide +kernel
    have h20 : (0 : Rat) ≤ (2 : Rat)⁻¹ := by decide +kernel
    have hc : ∃ c : Rat, c + c = 1 ∧ 0 ≤ c := ⟨_, h2, h20⟩
    obtain ⟨c, hc, hc0⟩ := hc
    have hA := jensen (y := fun i => c * (o i + v i)) (p := v) (w := fun i => whN N (x i)) (n := n) (W := whN N T) (q := 1) (Z := 1) (by rw [← hT]; exact whN_sum hw hx) (fun i hi => Rat.mul_nonneg hc0 (Rat.add_nonneg (ho i hi) (hvn i hi))) hvn (fun _ => by decide +kernel) (fun i hi => by
      have e1 := whN_eq (hw i hi) (hx i hi)
      have e2 := whN_eq (D := N) (q := T) (by rw [← hT]; exact Wh.sum n hw) T0
      rw [← e1, ← e2, hv' i hi, Rat.mul_one, Rat.div_def]
      have := Rat.mul_inv_cancel _ hT0
      grind) (by
      have e : sumTo (fun i => c * (o i + v i)) n = 1 := by
        rw [sumTo_mul, sumTo_plus, hs, hvs]; grind
      rw [e]; exact Rat.le_refl)
    rw [show (1 : Rat) / 1 = 1 by decide +kernel, on_pow] at hA
    have hA0 : 0 ≤ prodTo (fun i => (c * (o i + v i) / v i) ^ whN N (x i)) n := prodTo_nn n fun i hi => Rat.pow_nonneg (by
      rw [Rat.div_def]; exact Rat.mul_nonneg (Rat.mul_nonneg hc0 (Rat.add_nonneg (ho i hi) (hvn i hi))) (inv_nn (hvn i hi)))
    have hG0 : 0 ≤ prodTo (fun i => (v i / o i) ^ whN N (x i)) n := prodTo_nn n fun i hi => Rat.pow_nonneg (by
      rw [Rat.div_def]; exact Rat.mul_nonneg (hvn i hi) (inv_nn (ho i hi)))
    have pos : ∀ i, i < n → whN N (x i) ≠ 0 → 0 < o i ∧ 0 < v i ∧ o i ≠ 0 ∧ v i ≠ 0 := fun i hi hne => by
      have hxi := whN_nz hne
      have h1 : o i ≠ 0 := fun e => hxi (hz i hi e)
      have h3 : v i ≠ 0 := fun e => by
        rw [hv' i hi, Rat.div_def] at e
        exact hxi (mul_z e fun e2 => by
          have := Rat.mul_inv_cancel _ hT0
          rw [e2, Rat.mul_zero] at this
          exact absurd this (by decide +kernel))
      have := ho i hi; have := hvn i hi
      exact ⟨by grind, by grind, h1, h3⟩
    have hD : prodTo (fun i => (v i / o i) ^ whN N (x i)) n * (prodTo (fun i => (c * (o i + v i) / v i) ^ whN N (x i)) n * prodTo (fun i => (c * (o i + v i) / v i) ^ whN N (x i)) n) = prodTo (fun i => ((c * (o i + v i)) * (c * (o i + v i)) * ((o i)⁻¹ * (v i)⁻¹)) ^ whN N (x i)) n := by
      rw [← prodTo_mul, ← prodTo_mul]
      refine prodTo_congr n fun i hi => ?_
      by_cases hne : whN N (x i) = 0
      · rw [hne, Rat.pow_zero, Rat.pow_zero, Rat.pow_zero]; decide +kernel
      · obtain ⟨_, _, h1, h3⟩ := pos i hi hne
        rw [← pw_mul, ← pw_mul]
        congr 1
        rw [Rat.div_def, Rat.div_def]
        have := Rat.mul_inv_cancel _ h3
        grind
    have sq : ∀ i, i < n → whN N (x i) ≠ 0 → (c * (o i + v i)) * (c * (o i + v i)) * ((o i)⁻¹ * (v i)⁻¹) = 1 + (c * (o i - v i)) * (c * (o i - v i)) * ((o i)⁻¹ * (v i)⁻¹) := fun i hi hne => by
      obtain ⟨_, _, h1, h3⟩ := pos i hi hne
      have a1 := Rat.mul_inv_cancel _ h1
      have a2 := Rat.mul_inv_cancel _ h3
      have e4 : c * c * 4 = 1 := by
        have : c * c * 4 = (c + c) * (c + c) := by grind
        rw [this, hc]; decide +kernel
      have e5 : (c * (o i + v i)) * (c * (o i + v i)) - (c * (o i - v i)) * (c * (o i - v i)) = c * c * 4 * (o i * v i) := by grind
      rw [e4, Rat.one_mul] at e5
      have e6 : (c * (o i + v i)) * (c * (o i + v i)) = o i * v i + (c * (o i - v i)) * (c * (o i - v i)) := by grind
      rw [e6, Rat.add_mul]
      have e7 : o i * v i * ((o i)⁻¹ * (v i)⁻¹) = 1 := by
        have : o i * v i * ((o i)⁻¹ * (v i)⁻¹) = (o i * (o i)⁻¹) * (v i * (v i)⁻¹) := by grind
        rw [this, a1, a2]; decide +kernel
      rw [e7]
    have sn : ∀ q : Rat, 0 ≤ q * q := fun q => by
      by_cases h : 0 ≤ q
      · exact Rat.mul_nonneg h h
      · have h3 : 0 ≤ -q := by grind
        have := Rat.mul_nonneg h3 h3
        grind
    have hD1 : ∀ i, i < n → 1 ≤ ((c * (o i + v i)) * (c * (o i + v i)) * ((o i)⁻¹ * (v i)⁻¹)) ^ whN N (x i) := fun i hi => by
      by_cases hne : whN N (x i) = 0
      · rw [hne, Rat.pow_zero]; exact Rat.le_refl
      · obtain ⟨p1, p2, _, _⟩ := pos i hi hne
        refine one_le_pow ?_ _
        rw [sq i hi hne]
        have := Rat.mul_nonneg (sn (c * (o i - v i))) (Rat.mul_nonneg (Rat.le_of_lt (Rat.inv_pos.2 p1)) (Rat.le_of_lt (Rat.inv_pos.2 p2)))
        grind
    obtain ⟨g1, g2⟩ := prodTo_ge hD1
    rw [← hD] at g1 g2
    generalize hGe : prodTo (fun i => (v i / o i) ^ whN N (x i)) n = G at *
    generalize hAe : prodTo (fun i => (c * (o i + v i) / v i) ^ whN N (x i)) n = A at *
    have hAA : A * A ≤ 1 := by
      have := Rat.mul_le_mul_of_nonneg_right hA hA0
      rw [Rat.one_mul] at this
      exact Rat.le_trans this hA
    have hGA : G * (A * A) ≤ G := by
      have := Rat.mul_le_mul_of_nonneg_left hAA hG0
      rw [Rat.mul_one] at this; exact this
    refine ⟨Rat.le_trans g1 hGA, fun hG1 => ?_⟩
    have same : ∀ i, i < n → whN N (x i) ≠ 0 → v i = o i := fun i hi hne => by
      obtain ⟨p1, p2, h1, h3⟩ := pos i hi hne
      have h4 := Rat.le_trans (g2 i hi) (Rat.le_trans hGA hG1)
      have h5 := Rat.mul_pos (Rat.inv_pos.2 p1) (Rat.inv_pos.2 p2)
      have e1 : 1 ≤ (c * (o i + v i)) * (c * (o i + v i)) * ((o i)⁻¹ * (v i)⁻¹) := by
        rw [sq i hi hne]
        have := Rat.mul_nonneg (sn (c * (o i - v i))) (Rat.le_of_lt h5)
        grind
      have e2 := pow_one_eq e1 hne h4
      rw [sq i hi hne] at e2
      have e3 : (c * (o i - v i)) * (c * (o i - v i)) * ((o i)⁻¹ * (v i)⁻¹) = 0 := by grind
      have e4 := mul_z e3 (by grind)
      have hcn : c ≠ 0 := fun e => by rw [e] at hc; exact absurd hc (by decide +kernel)
      by_cases hd : c * (o i - v i) = 0
      · rw [Rat.mul_comm] at hd
        have := mul_z hd hcn
        grind
      · have := mul_z e4 hd
        exact absurd this hd
    have hle : ∀ i, i < n → 0 ≤ o i + -(v i) := fun i hi => by
      by_cases hne : whN N (x i) = 0
      · have hx0 : x i = 0 := by
          have e1 := whN_eq (hw i hi) (hx i hi)
          rw [hne] at e1
          have : x i * (N : Rat) = 0 := e1
          refine mul_z this fun e => ?_
          have : N = 0 := by exact_mod_cast e
          omega
        have : v i = 0 := by rw [hv' i hi, hx0, Rat.div_def, Rat.zero_mul]
        rw [this]; have := ho i hi; grind
      · rw [same i hi hne]; grind
    have hsum : sumTo (fun i => o i + -(v i)) n = 0 := by
      have e : sumTo (fun i => -(v i)) n = -1 := by
        have : sumTo (fun i => -(v i)) n = sumTo (fun i => (-1) * v i) n := sumTo_congr n fun i _ => by grind
        rw [this, sumTo_mul, hvs]; decide +kernel
      rw [sumTo_plus, hs, e]; decide +kernel
    intro i hi
    have := sumTo_zero_all hle hsum i hi
    grind
end Go.Ear
