/- PB: a part of the proofs about package model: how the program's functions run, and what they compute, for every input. -/
import Derived.Test.YtpmndikbfalfoaaGreatPA
set_option linter.all false
set_option linter.unusedVariables false
namespace Go.Ear
def Wh (D : Nat) (q : Rat) : Prop := ∃ a : Int, q * (D : Rat) = (a : Rat)
theorem Wh.zero (D : Nat) : Wh D 0 := ⟨0, by rw [Rat.zero_mul]; rfl⟩
theorem Wh.add {D : Nat} {p q : Rat} (h : Wh D p) (k : Wh D q) : Wh D (p + q) := by
  obtain ⟨a, ha⟩ := h; obtain ⟨b, hb⟩ := k
  exact ⟨a + b, by rw [Rat.add_mul, ha, hb, Rat.intCast_add]⟩
theorem Wh.mul {D E : Nat} {p q : Rat} (h : Wh D p) (k : Wh E q) : Wh (D * E) (p * q) := by
  obtain ⟨a, ha⟩ := h; obtain ⟨b, hb⟩ := k
  refine ⟨a * b, ?_⟩
  rw [Rat.intCast_mul, ← ha, ← hb, Rat.natCast_mul]; grind
theorem Wh.up {D : Nat} {q : Rat} (h : Wh D q) (E : Nat) : Wh (D * E) q := by
  obtain ⟨a, ha⟩ := h
  refine ⟨a * E, ?_⟩
  rw [Rat.intCast_mul, ← ha, Rat.natCast_mul, Rat.intCast_natCast]; grind
theorem Wh.of_dvd {D E : Nat} {q : Rat} (h : Wh D q) (d : D ∣ E) : Wh E q := by
  obtain ⟨c, rfl⟩ := d; exact h.up c
theorem Wh.sum {D : Nat} {f : Nat → Rat} : ∀ n, (∀ i, i < n → Wh D (f i)) → Wh D (sumTo f n)
  | 0, _ => Wh.zero D
  | n + 1, h => (Wh.sum n fun i hi => h i (by omega)).add (h n (by omega))
theorem num_eq (q : Rat) : q * (q.den : Rat) = ((q.num : Int) : Rat) := by
  have h0 : (q.den : Rat) ≠ 0 := fun e => q.den_nz (by exact_mod_cast e)
  have h1 : q = (q.num : Rat) / (q.den : Rat) := by
    have := Rat.mkRat_self q
    rw [Rat.mkRat_eq_div] at this
    exact this.symm
  have h2 : (q.num : Rat) / (q.den : Rat) * (q.den : Rat) = (q.num : Rat) := by
    rw [Rat.div_def, Rat.mul_assoc, Rat.inv_mul_cancel _ h0, Rat.mul_one]
  rw [← h1] at h2; exact h2
theorem Wh.den (q : Rat) : Wh q.den q := ⟨q.num, num_eq q⟩
theorem Wh.bq {D : Nat} {q : Rat} (h : Wh D q) (hD : 0 < D) (h0 : 0 ≤ q) (h1 : q ≤ 1) : bq q ≤ sz D := by
  obtain ⟨a, ha⟩ := h
  have hD0 : (D : Rat) ≠ 0 := fun e => by
    have : D = 0 := by exact_mod_cast e
    omega
  have hDp : (0 : Rat) < (D : Rat) := by
    have := Rat.natCast_pos.2 hD; exact this
  have hd : q.den ∣ D := by
    have e : q = (a : Rat) / (D : Rat) := by rw [← ha, Rat.div_def, Rat.mul_assoc, Rat.mul_inv_cancel _ hD0, Rat.mul_one]
    have e2 : q = mkRat a D := by rw [Rat.mkRat_eq_div]; exact e
    rw [e2, Rat.den_mkRat, if_neg (by omega)]
    exact Nat.div_dvd_of_dvd (Nat.gcd_dvd_left _ _)
  have hdl : q.den ≤ D := Nat.le_of_dvd hD hd
  have hn : q.num.natAbs ≤ q.den := by
    have hnn : 0 ≤ q.num := Rat.num_nonneg.2 h0
    have hle : q.num ≤ (q.den : Int) := by
      have h2 := num_eq q
      have h3 : (q.num : Rat) ≤ ((q.den : Int) : Rat) := by
        rw [← h2]
        have hdp : (0 : Rat) ≤ (q.den : Rat) := Rat.natCast_nonneg
        have := Rat.mul_le_mul_of_nonneg_right h1 hdp
        rw [Rat.one_mul] at this
        rw [Rat.intCast_natCast]; exact this
      exact_mod_cast h3
    omega
  unfold Go.Ear.bq
  exact Nat.max_le.2 ⟨sz_mono (Nat.le_trans hn hdl), sz_mono hdl⟩
theorem Wh.cast {D E : Nat} {q : Rat} (h : Wh D q) (e : D = E) : Wh E q := e ▸ h
structure WhM (m : Md) (a b c : Nat) : Prop where
  st : ∀ i, Wh a (m.start.getD i fr0).rat
  mv : ∀ i j, Wh b ((m.move.getD i []).getD j fr0).rat
  fi : ∀ i, Wh b (m.fin.getD i fr0).rat
  sy : ∀ i x, Wh c ((m.say.getD i []).getD x fr0).rat
section
variable {t : Tr} {a b c : Nat} (w : WhM t.m a b c)
include w
theorem WhM.fwd : ∀ k i, Wh (a * (b ^ k * c ^ (k + 1))) ((fwd t k).getD i 0)
  | k, i => by
    by_cases hi : i < t.m.start.length
    · match k with
      | 0 =>
        rw [← fwd_zero hi]
        exact ((w.st i).mul (w.sy i _)).cast (by simp)
      | k + 1 =>
        rw [← fwd_succ hi]
        refine ((w.sy i _).mul (Wh.sum _ fun j _ => (WhM.fwd k j).mul (w.mv j i))).cast ?_
        simp only [Nat.pow_succ]; ac_rfl
    · rw [List.getD_eq_getElem?_getD, List.getElem?_eq_none (by rw [fwd_len]; omega)]; exact Wh.zero _
theorem WhM.bwd : ∀ k i, Wh (b ^ (k + 1) * c ^ k) ((bwd t k).getD i 0)
  | k, i => by
    by_cases hi : i < t.m.start.length
    · match k with
      | 0 =>
        rw [← bwd_zero hi]
        exact (w.fi i).cast (by simp)
      | k + 1 =>
        rw [← bwd_succ hi]
        refine (Wh.sum _ fun j _ => ((w.mv i j).mul (w.sy j _)).mul (WhM.bwd k j)).cast ?_
        simp only [Nat.pow_succ]; ac_rfl
    · rw [List.getD_eq_getElem?_getD, List.getElem?_eq_none (by rw [bwd_len]; omega)]; exact Wh.zero _
theorem WhM.both {k i : Nat} (hk : k < t.o.length) : Wh (a * (b ^ t.o.length * c ^ t.o.length)) ((Go.Ear.fwd t k).getD i 0 * (Go.Ear.bwd t (t.o.length - 1 - k)).getD i 0) := by
  refine ((w.fwd k i).mul (w.bwd (t.o.length - 1 - k) i)).cast ?_
  have e1 : t.o.length = k + (t.o.length - 1 - k + 1) := by omega
  have e2 : t.o.length = (k + 1) + (t.o.length - 1 - k) := by omega
  rw [show b ^ t.o.length = b ^ k * b ^ (t.o.length - 1 - k + 1) by rw [← Nat.pow_add, ← e1], show c ^ t.o.length = c ^ (k + 1) * c ^ (t.o.length - 1 - k) by rw [← Nat.pow_add, ← e2]]
  ac_rfl
theorem WhM.wM {k i j : Nat} (hk : k + 1 < t.o.length) : Wh (a * (b ^ t.o.length * c ^ t.o.length)) (Go.Ear.wM t i k j) := by
  unfold Go.Ear.wM
  refine ((((w.fwd k i).mul (w.mv i j)).mul (w.sy j _)).mul (w.bwd (t.o.length - 1 - (k + 1)) j)).cast ?_
  have e1 : t.o.length = k + (1 + (t.o.length - 1 - (k + 1) + 1)) := by omega
  have e2 : t.o.length = (k + 1) + (1 + (t.o.length - 1 - (k + 1))) := by omega
  rw [show b ^ t.o.length = b ^ k * (b ^ 1 * b ^ (t.o.length - 1 - (k + 1) + 1)) by rw [← Nat.pow_add, ← Nat.pow_add, ← e1], show c ^ t.o.length = c ^ (k + 1) * (c ^ 1 * c ^ (t.o.length - 1 - (k + 1))) by rw [← Nat.pow_add, ← Nat.pow_add, ← e2], Nat.pow_one, Nat.pow_one]
  ac_rfl
theorem WhM.lk : Wh (a * (b ^ t.o.length * c ^ t.o.length)) (Go.Ear.lk t) := by
  by_cases h : t.o.length = 0
  · rw [lk_zero h]; exact Wh.zero _
  · rw [← lk_both' (t := t) (k := 0) (by omega)]
    exact Wh.sum _ fun i _ => w.both (by omega)
end
section
variable {m : Md} (hv : validM m = true)
include hv
theorem sy_le1 {i : Nat} (hi : i < m.start.length) (x : Nat) : ((m.say.getD i []).getD x fr0).rat ≤ 1 := by
  have on := (Ones.of hv).sy i hi
  have nn := Nn.of hv
  by_cases hx : x < symb m
  · rw [← on]; exact sumTo_one (fun y _ => nn.sy i y) hx
  · rw [List.getD_eq_getElem?_getD, List.getElem?_eq_none (by rw [(valid_row hv hi).2.1]; omega)]
    show fr0.rat ≤ 1; decide +kernel
theorem mv_sum1 {i : Nat} (hi : i < m.start.length) : sumTo (fun j => ((m.move.getD i []).getD j fr0).rat) m.start.length ≤ 1 := by
  have on := (Ones.of hv).lv i hi
  have := (Nn.of hv).fi i
  grind
theorem mv_le1 {i j : Nat} (hi : i < m.start.length) (hj : j < m.start.length) : ((m.move.getD i []).getD j fr0).rat ≤ 1 :=
  Rat.le_trans (sumTo_one (fun y _ => (Nn.of hv).mv i y) hj) (mv_sum1 hv hi)
theorem fi_le1 {i : Nat} (hi : i < m.start.length) : (m.fin.getD i fr0).rat ≤ 1 := by
  have on := (Ones.of hv).lv i hi
  have := sumTo_nonneg m.start.length (f := fun j => ((m.move.getD i []).getD j fr0).rat) fun j _ => (Nn.of hv).mv i j
  grind
end
theorem mul_le_l {p q : Rat} (hp : 0 ≤ p) (q1 : q ≤ 1) : p * q ≤ p := by
  have := Rat.mul_le_mul_of_nonneg_left q1 hp
  rw [Rat.mul_one] at this; exact this
theorem mul_le_r {p q : Rat} (hq : 0 ≤ q) (p1 : p ≤ 1) : p * q ≤ q := by
  have := Rat.mul_le_mul_of_nonneg_right p1 hq
  rw [Rat.one_mul] at this; exact this
section
variable {t : Tr} (hv : validM t.m = true)
include hv
theorem fwd_sum1 : ∀ k, sumTo (fun i => (fwd t k).getD i 0) t.m.start.length ≤ 1
  | 0 => by
    rw [← (Ones.of hv).st]
    refine sumTo_le _ fun i hi => ?_
    rw [← fwd_zero hi]
    exact mul_le_l ((Nn.of hv).st i) (sy_le1 hv hi _)
  | k + 1 => by
    refine Rat.le_trans ?_ (fwd_sum1 k)
    have h1 : sumTo (fun i => (fwd t (k + 1)).getD i 0) t.m.start.length ≤ sumTo (fun i => sumTo (fun j => (fwd t k).getD j 0 * moveT t j i) t.m.start.length) t.m.start.length := by
      refine sumTo_le _ fun i hi => ?_
      rw [← fwd_succ hi]
      exact mul_le_r (sumTo_nonneg _ fun j _ => Rat.mul_nonneg (fwd_nn (Nn.of hv) k j) ((Nn.of hv).mv j i)) (sy_le1 hv hi _)
    refine Rat.le_trans h1 ?_
    rw [sumTo_swap]
    refine sumTo_le _ fun j hj => ?_
    rw [show (fun i => (fwd t k).getD j 0 * moveT t j i) = fun i => (fwd t k).getD j 0 * (moveT t j i) from rfl, sumTo_mul]
    exact mul_le_l (fwd_nn (Nn.of hv) k j) (mv_sum1 hv hj)
theorem fwd_le1 (k i : Nat) : (fwd t k).getD i 0 ≤ 1 := by
  by_cases hi : i < t.m.start.length
  · exact Rat.le_trans (sumTo_one (fun y _ => fwd_nn (Nn.of hv) k y) hi) (fwd_sum1 hv k)
  · rw [List.getD_eq_getElem?_getD, List.getElem?_eq_none (by rw [fwd_len]; omega)]
    show (0 : Rat) ≤ 1; decide +kernel
theorem bwd_le1 : ∀ k i, (bwd t k).getD i 0 ≤ 1
  | k, i => by
    by_cases hi : i < t.m.start.length
    · match k with
      | 0 => rw [← bwd_zero hi]; exact fi_le1 hv hi
      | k + 1 =>
        rw [← bwd_succ hi]
        refine Rat.le_trans (sumTo_le _ fun j hj => ?_) (mv_sum1 hv hi)
        have nn := Nn.of hv
        exact Rat.le_trans (mul_le_l (Rat.mul_nonneg (nn.mv i j) (nn.sy j _)) (bwd_le1 k j)) (mul_le_l (nn.mv i j) (sy_le1 hv hj _))
    · rw [List.getD_eq_getElem?_getD, List.getElem?_eq_none (by rw [bwd_len]; omega)]
      show (0 : Rat) ≤ 1; decide +kernel
theorem lk_le1 : lk t ≤ 1 := by
  by_cases h : t.o.length = 0
  · rw [lk_zero h]; decide +kernel
  · rw [lk_fwd (by omega)]
    exact Rat.le_trans (sumTo_le _ fun i hi => mul_le_l (fwd_nn (Nn.of hv) _ i) (fi_le1 hv hi)) (fwd_sum1 hv _)
end
end Go.Ear
set_option linter.unusedVariables false
namespace Go.Ear
theorem mul_rot {x y z : Rat} (hy : y ≠ 0) : x / y * (y * z) = x * z := by
  rw [Rat.div_def, Rat.mul_assoc, ← Rat.mul_assoc y⁻¹, Rat.inv_mul_cancel _ hy, Rat.one_mul]
def whN (D : Nat) (q : Rat) : Nat := (q * (D : Rat)).num.toNat
theorem whN_eq {D : Nat} {q : Rat} (h : Wh D q) (h0 : 0 ≤ q) : q * (D : Rat) = ((whN D q : Nat) : Rat) := by
  obtain ⟨a, ha⟩ := h
  have hn : 0 ≤ q * (D : Rat) := Rat.mul_nonneg h0 Rat.natCast_nonneg
  unfold whN
  rw [ha] at hn ⊢
  have ha0 : 0 ≤ a := Rat.intCast_nonneg.1 hn
  rw [Rat.num_intCast, ← Rat.intCast_natCast, Int.toNat_of_nonneg ha0]
theorem whN_pos {D : Nat} {q : Rat} (h : Wh D q) (h0 : 0 < q) (hD : 0 < D) : 0 < whN D q := by
  have e := whN_eq h (Rat.le_of_lt h0)
  have : (0 : Rat) < ((whN D q : Nat) : Rat) := by rw [← e]; exact Rat.mul_pos h0 (Rat.natCast_pos.2 hD)
  exact Rat.natCast_pos.1 this
theorem whN_le {D B : Nat} {q : Rat} (h : Wh D q) (h0 : 0 ≤ q) (h1 : q ≤ (B : Rat)) : whN D q ≤ B * D := by
  have e := whN_eq h h0
  have h2 : ((whN D q : Nat) : Rat) ≤ ((B * D : Nat) : Rat) := by
    rw [← e, Rat.natCast_mul]; exact Rat.mul_le_mul_of_nonneg_right h1 Rat.natCast_nonneg
  exact Rat.natCast_le_natCast.1 h2
theorem Wh.part {D : Nat} {p q : Rat} (h : Wh D p) (k : Wh D q) (hq : 0 < q) : Wh (whN D q) (p / q) := by
  obtain ⟨a, ha⟩ := h
  refine ⟨a, ?_⟩
  rw [← whN_eq k (Rat.le_of_lt hq), mul_rot (fun e => by rw [e] at hq; exact absurd hq (by decide)), ha]
section
variable {t : Tr} {a b c : Nat}
abbrev dT (t : Tr) (a b c : Nat) : Nat := a * (b ^ t.o.length * c ^ t.o.length)
def lN (t : Tr) (a b c : Nat) : Nat := whN (dT t a b c) (lk t)
theorem lk_gt {t : Tr} (nn : Nn t.m) (h : lk t ≠ 0) : 0 < lk t := by
  have := lk_nn (t := t) nn; grind
theorem pY_wh (w : WhM t.m a b c) (nn : Nn t.m) (h : lk t ≠ 0) {i k : Nat} (hk : k < t.o.length) : Wh (lN t a b c) (pY t i k) := (w.both hk).part w.lk (lk_gt nn h)
theorem pM_wh (w : WhM t.m a b c) (nn : Nn t.m) (h : lk t ≠ 0) {i k j : Nat} (hk : k + 1 < t.o.length) : Wh (lN t a b c) (pM t i k j) := (w.wM hk).part w.lk (lk_gt nn h)
theorem pE_pY {t : Tr} {i : Nat} (hi : i < t.m.start.length) : pE t i = pY t i (t.o.length - 1) := by
  unfold pE pY; rw [show t.o.length - 1 - (t.o.length - 1) = 0 by omega, ← bwd_zero hi]
theorem sayRow_wh (w : WhM t.m a b c) (nn : Nn t.m) (h : lk t ≠ 0) (i x : Nat) : ∀ k, k ≤ t.o.length → Wh (lN t a b c) ((sayRow t i k).getD x 0)
  | 0, _ => by
    rw [sayRow, List.getD_eq_getElem?_getD, List.getElem?_replicate]; split <;> exact Wh.zero _
  | k + 1, hk => by
    have ih := sayRow_wh w nn h i x k (by omega)
    rw [sayRow]
    by_cases e : (t.o.getD k 0).toNat = x
    · subst e
      by_cases hx : (t.o.getD k 0).toNat < (sayRow t i k).length
      · rw [getD_set_is hx]; exact ih.add (pY_wh w nn h (by omega))
      · rw [List.getD_eq_getElem?_getD, List.getElem?_eq_none (by rw [List.length_set]; omega)]; exact Wh.zero _
    · rw [getD_set_ne' e]; exact ih
theorem mvRow_wh (w : WhM t.m a b c) (nn : Nn t.m) (h : lk t ≠ 0) (i j : Nat) : ∀ k, k < t.o.length → Wh (lN t a b c) ((mvRow t i k).getD j 0)
  | 0, _ => by
    rw [mvRow, List.getD_eq_getElem?_getD, List.getElem?_replicate]; split <;> exact Wh.zero _
  | k + 1, hk => by
    by_cases hj : j < t.m.start.length
    · rw [← mvRow_at hj]; exact (mvRow_wh w nn h i j k (by omega)).add (pM_wh w nn h hk)
    · rw [List.getD_eq_getElem?_getD, List.getElem?_eq_none (by rw [mvRow_len]; omega)]; exact Wh.zero _
theorem cnt_wh (w : WhM t.m a b c) (nn : Nn t.m) (h : lk t ≠ 0) (i j : Nat) : Wh (lN t a b c) ((cntT t).start.getD i 0) ∧ Wh (lN t a b c) ((cntT t).fin.getD i 0) ∧ Wh (lN t a b c) (((cntT t).move.getD i []).getD j 0) ∧ Wh (lN t a b c) (((cntT t).say.getD i []).getD j 0) := by
  have hp := lk_pos h
  by_cases hi : i < t.m.start.length
  · refine ⟨?_, ?_, ?_, ?_⟩
    · show Wh _ ((cntS t).getD i 0); rw [cntS, range_getD _ _ hi]; exact pY_wh w nn h hp
    · show Wh _ ((cntE t).getD i 0); rw [cntE, range_getD _ _ hi, pE_pY hi]; exact pY_wh w nn h (by omega)
    · show Wh _ (((cntM t).getD i []).getD j 0); rw [cntM, range_getD _ _ hi]; exact mvRow_wh w nn h i j _ (by omega)
    · show Wh _ (((cntY t).getD i []).getD j 0); rw [cntY, range_getD _ _ hi]; exact sayRow_wh w nn h i j _ (Nat.le_refl _)
  · have z : ∀ {l : List Rat}, l.length = t.m.start.length → l.getD i 0 = 0 := fun {l} hl => by rw [List.getD_eq_getElem?_getD, List.getElem?_eq_none (by omega)]; rfl
    have z2 : ∀ {l : List (List Rat)}, l.length = t.m.start.length → (l.getD i []).getD j 0 = 0 := fun {l} hl => by rw [List.getD_eq_getElem?_getD (l := l), List.getElem?_eq_none (by omega)]; rfl
    refine ⟨?_, ?_, ?_, ?_⟩
    · show Wh _ ((cntS t).getD i 0); rw [z (cntS_len t)]; exact Wh.zero _
    · show Wh _ ((cntE t).getD i 0); rw [z (cntE_len t)]; exact Wh.zero _
    · show Wh _ (((cntM t).getD i []).getD j 0); rw [z2 (cntM_len t)]; exact Wh.zero _
    · show Wh _ (((cntY t).getD i []).getD j 0); rw [z2 (cntY_len t)]; exact Wh.zero _
end
section
variable {m : Md} {data : List (List Int)} {a b c : Nat}
def lP (m : Md) (data : List (List Int)) (a b c : Nat) : Nat → Nat
  | 0 => 1
  | k + 1 => if lk (trK m data k) = 0 then lP m data a b c k else lP m data a b c k * lN (trK m data k) a b c
theorem addR_wh {D : Nat} {x y : List Rat} (hx : ∀ i, Wh D (x.getD i 0)) (hy : ∀ i, Wh D (y.getD i 0)) (i : Nat) : Wh D ((addR x y).getD i 0) := by
  by_cases hi : i < x.length
  · rw [addR, range_getD _ _ hi]; exact (hx i).add (hy i)
  · rw [List.getD_eq_getElem?_getD, List.getElem?_eq_none (by rw [addR_len]; omega)]; exact Wh.zero _
theorem addM_wh {D : Nat} {x y : List (List Rat)} (hx : ∀ i j, Wh D ((x.getD i []).getD j 0)) (hy : ∀ i j, Wh D ((y.getD i []).getD j 0)) (i j : Nat) : Wh D (((addM x y).getD i []).getD j 0) := by
  by_cases hi : i < x.length
  · rw [← addM_at hi]; exact addR_wh (hx i) (hy i) j
  · rw [List.getD_eq_getElem?_getD (l := addM x y), List.getElem?_eq_none (by rw [addM_len]; omega)]; exact Wh.zero _
theorem all_wh (w : WhM m a b c) (nn : Nn m) : ∀ k i j, Wh (lP m data a b c k) ((allT m data k).start.getD i 0) ∧ Wh (lP m data a b c k) ((allT m data k).fin.getD i 0) ∧ Wh (lP m data a b c k) (((allT m data k).move.getD i []).getD j 0) ∧ Wh (lP m data a b c k) (((allT m data k).say.getD i []).getD j 0)
  | 0, i, j => by
    have z : ∀ n i, Wh 1 ((List.replicate n (0 : Rat)).getD i 0) := fun n i => by rw [List.getD_eq_getElem?_getD, List.getElem?_replicate]; split <;> exact Wh.zero _
    have z2 : ∀ n k i j, Wh 1 (((List.replicate n (List.replicate k (0 : Rat))).getD i []).getD j 0) := fun n k i j => by
      rw [List.getD_eq_getElem?_getD (l := List.replicate n (List.replicate k (0 : Rat))), List.getElem?_replicate]
      split
      · exact z k j
      · exact Wh.zero _
    exact ⟨z _ i, z _ i, z2 _ _ i j, z2 _ _ i j⟩
  | k + 1, i, j => by
    have ih := all_wh w nn k
    by_cases h : lk (trK m data k) = 0
    · rw [allT_t h, lP, if_pos h]; exact ih i j
    · have hc := cnt_wh (t := trK m data k) w nn h
      rw [allT_f h, lP, if_neg h]
      refine ⟨addR_wh (fun i => (ih i 0).1.up _) (fun i => (hc i 0).1.of_dvd (Nat.dvd_mul_left _ _)) i, addR_wh (fun i => (ih i 0).2.1.up _) (fun i => (hc i 0).2.1.of_dvd (Nat.dvd_mul_left _ _)) i, addM_wh (fun i j => (ih i j).2.2.1.up _) (fun i j => (hc i j).2.2.1.of_dvd (Nat.dvd_mul_left _ _)) i j, addM_wh (fun i j => (ih i j).2.2.2.up _) (fun i j => (hc i j).2.2.2.of_dvd (Nat.dvd_mul_left _ _)) i j⟩
theorem lN_pos {t : Tr} (w : WhM t.m a b c) (nn : Nn t.m) (ha : 0 < a) (hb : 0 < b) (hc : 0 < c) (h : lk t ≠ 0) : 0 < lN t a b c := whN_pos w.lk (lk_gt nn h) (Nat.mul_pos ha (Nat.mul_pos (Nat.pow_pos hb) (Nat.pow_pos hc)))
theorem lP_pos (w : WhM m a b c) (nn : Nn m) (ha : 0 < a) (hb : 0 < b) (hc : 0 < c) : ∀ k, 0 < lP m data a b c k
  | 0 => by rw [lP]; decide
  | k + 1 => by
    rw [lP]
    split
    · exact lP_pos w nn ha hb hc k
    · rename_i h; exact Nat.mul_pos (lP_pos w nn ha hb hc k) (lN_pos (t := trK m data k) w nn ha hb hc h)
theorem dT_sz {t : Tr} {F : Nat} (hF : t.o.length ≤ F) : sz (dT t a b c) ≤ sz a + F * (sz b + sz c) + 2 := by
  have h1 := sz_mul a (b ^ t.o.length * c ^ t.o.length)
  have h2 := sz_mul (b ^ t.o.length) (c ^ t.o.length)
  have h3 := sz_pow b t.o.length
  have h4 := sz_pow c t.o.length
  have h5 := Nat.mul_le_mul_right (sz b) hF
  have h6 := Nat.mul_le_mul_right (sz c) hF
  rw [Nat.mul_add]
  unfold dT; omega
theorem lN_sz {t : Tr} (w : WhM t.m a b c) (hv : validM t.m = true) : sz (lN t a b c) ≤ sz (dT t a b c) := by
  have := whN_le (B := 1) w.lk (lk_nn (Nn.of hv)) (lk_le1 hv)
  rw [Nat.one_mul] at this
  exact sz_mono this
theorem lP_sz (w : WhM m a b c) (hv : validM m = true) {F : Nat} (hF : ∀ o ∈ data, o.length ≤ F) : ∀ k, k ≤ data.length → sz (lP m data a b c k) ≤ 1 + k * (sz a + F * (sz b + sz c) + 2)
  | 0, _ => by rw [lP, sz_one]; omega
  | k + 1, hk => by
    have ih := lP_sz w hv hF k (by omega)
    rw [lP, Nat.succ_mul]
    split
    · omega
    · have h1 := sz_mul (lP m data a b c k) (lN (trK m data k) a b c)
      have h2 := lN_sz (t := trK m data k) w hv
      have h3 := dT_sz (t := trK m data k) (a := a) (b := b) (c := c) (hF _ (getD_mem' data [] (show k < data.length by omega)))
      omega
end
end Go.Ear
set_option linter.unusedVariables false
namespace Go.Ear
def nzTo (f : Nat → Rat) : Nat → Nat
  | 0 => 0
  | n + 1 => nzTo f n + (if f n = 0 then 0 else 1)
theorem nzTo_le {f g : Nat → Rat} : ∀ n, (∀ i, i < n → g i = 0 → f i = 0) → nzTo f n ≤ nzTo g n
  | 0, _ => Nat.le_refl _
  | n + 1, h => by
    have ih := nzTo_le n fun i hi => h i (by omega)
    have h1 := h n (by omega)
    simp only [nzTo]
    by_cases e : g n = 0
    · rw [if_pos e, if_pos (h1 e)]; omega
    · rw [if_neg e]; split <;> omega
theorem nzTo_add {f g h : Nat → Rat} : ∀ n, (∀ i, i < n → f i = 0 → g i = 0 → h i = 0) → nzTo h n ≤ nzTo f n + nzTo g n
  | 0, _ => Nat.le_refl _
  | n + 1, hh => by
    have ih := nzTo_add n fun i hi => hh i (by omega)
    have h1 := hh n (by omega)
    simp only [nzTo]
    by_cases e : f n = 0
    · rw [if_pos e]
      by_cases e2 : g n = 0
      · rw [if_pos e2, if_pos (h1 e e2)]; omega
      · rw [if_neg e2]; split <;> omega
    · rw [if_neg e]
      by_cases e2 : g n = 0
      · rw [if_pos e2]; split <;> omega
      · rw [if_neg e2]; split <;> omega
theorem nzTo_zero {f : Nat → Rat} : ∀ n, (∀ i, i < n → f i = 0) → nzTo f n = 0
  | 0, _ => rfl
  | n + 1, h => by rw [nzTo, nzTo_zero n fun i hi => h i (by omega), if_pos (h n (by omega))]
theorem nzTo_one {f g : Nat → Rat} (x : Nat) : ∀ n, (∀ i, i < n → i ≠ x → g i = f i) → nzTo g n ≤ nzTo f n + (if x < n then 1 else 0)
  | 0, _ => Nat.zero_le _
  | n + 1, h => by
    have ih := nzTo_one x n fun i hi => h i (by omega)
    have h1 := h n (by omega)
    simp only [nzTo]
    by_cases e : n = x
    · have e1 : (if x < n + 1 then 1 else 0) = 1 := if_pos (by omega)
      have e2 : (if x < n then 1 else 0) = 0 := if_neg (by omega)
      rw [e1]
      rw [e2] at ih
      have e3 : (if g n = 0 then 0 else 1) ≤ 1 := by split <;> omega
      omega
    · rw [h1 e]
      have e3 : (if x < n + 1 then 1 else 0) = if x < n then 1 else 0 := by
        by_cases e2 : x < n
        · rw [if_pos e2, if_pos (by omega)]
        · rw [if_neg e2, if_neg (by omega)]
      rw [e3]; omega
def nz (l : List Rat) : Nat := nzTo (fun i => l.getD i 0) l.length
theorem wts_nz {K : Nat} : ∀ {l : List Rat}, (∀ q ∈ l, bq q ≤ K) → wts (l.map frK) ≤ 2 * l.length + (l.filter (fun q => decide (q ≠ 0))).length * K
  | [], _ => Nat.zero_le _
  | q :: l, h => by
    have ih := wts_nz (K := K) (l := l) fun x hx => h x (List.mem_cons_of_mem _ hx)
    have h1 := h q (List.mem_cons_self ..)
    rw [List.map_cons, wts_cons, bf_frK, List.length_cons, List.filter_cons]
    by_cases e : q = 0
    · rw [e, bq_zero, if_neg (by simp)]; omega
    · rw [if_pos (by simpa using e), List.length_cons, Nat.add_mul, Nat.one_mul]; omega
theorem nzTo_shift (f : Nat → Rat) : ∀ n, nzTo f (n + 1) = (if f 0 = 0 then 0 else 1) + nzTo (fun i => f (i + 1)) n
  | 0 => by simp only [nzTo]; omega
  | n + 1 => by rw [nzTo, nzTo_shift f n, nzTo]; omega
theorem filter_nz : ∀ l : List Rat, (l.filter (fun q => decide (q ≠ 0))).length = nz l
  | [] => rfl
  | q :: l => by
    have ih := filter_nz l
    unfold nz
    rw [List.length_cons, nzTo_shift, List.filter_cons]
    have e2 : nzTo (fun i => (q :: l).getD (i + 1) 0) l.length = nz l := by unfold nz; rfl
    rw [e2, ← ih]
    by_cases e : q = 0
    · rw [if_neg (by simp [e]), if_pos (by simpa using e)]; omega
    · rw [if_pos (by simpa using e), if_neg (by simpa using e), List.length_cons]; omega
theorem wts_few {K N : Nat} {l : List Rat} (h : ∀ i, bq (l.getD i 0) ≤ K) (hn : nz l ≤ N) : wts (l.map frK) ≤ 2 * l.length + N * K := by
  have h1 := wts_nz (K := K) (l := l) fun q hq => by
    obtain ⟨i, hi, rfl⟩ := List.getElem_of_mem hq
    have := h i
    rw [List.getD_eq_getElem?_getD, List.getElem?_eq_getElem hi] at this
    exact this
  rw [filter_nz] at h1
  exact Nat.le_trans h1 (Nat.add_le_add_left (Nat.mul_le_mul_right K hn) _)
theorem nz_addR (a b : List Rat) (h : b.length = a.length) : nz (addR a b) ≤ nz a + nz b := by
  unfold nz
  rw [addR_len, h]
  refine nzTo_add _ fun i hi ha hb => ?_
  rw [addR, range_getD _ _ hi, ha, hb]; exact Rat.add_zero 0
theorem nz_rep (n : Nat) : nz (List.replicate n 0) = 0 := nzTo_zero _ fun i _ => by
  rw [List.getD_eq_getElem?_getD, List.getElem?_replicate]; split <;> rfl
theorem nz_sayRow (t : Tr) (i : Nat) : ∀ k, nz (sayRow t i k) ≤ k
  | 0 => by rw [sayRow, nz_rep]; exact Nat.le_refl _
  | k + 1 => by
    have ih := nz_sayRow t i k
    rw [sayRow]
    unfold nz at ih ⊢
    rw [List.length_set]
    have := nzTo_one (f := fun j => (sayRow t i k).getD j 0) (g := fun j => ((sayRow t i k).set (t.o.getD k 0).toNat ((sayRow t i k).getD (t.o.getD k 0).toNat 0 + pY t i k)).getD j 0) (t.o.getD k 0).toNat (sayRow t i k).length fun j hj hne => getD_set_ne' (fun e => hne e.symm)
    split at this <;> omega
theorem nz_all {m : Md} {data : List (List Int)} {F : Nat} (hF : ∀ o ∈ data, o.length ≤ F) (i : Nat) : ∀ k, k ≤ data.length → nz ((allT m data k).say.getD i []) ≤ k * F
  | 0, _ => by
    rw [allT, ctZ]
    dsimp only
    rw [List.getD_eq_getElem?_getD, List.getElem?_replicate]
    split
    · show nz (List.replicate _ 0) ≤ _; rw [nz_rep]; omega
    · show nz [] ≤ _; exact Nat.zero_le _
  | k + 1, hk => by
    have ih := nz_all (m := m) hF i k (by omega)
    have hl := allT_len m data k
    by_cases h : lk (trK m data k) = 0
    · rw [allT_t h, Nat.succ_mul]; dsimp only; omega
    · rw [allT_f h, Nat.succ_mul]
      dsimp only
      by_cases hi : i < m.start.length
      · have hr := allT_row' m data k i hi
        rw [← addM_at (by omega)]
        have hy : (cntT (trK m data k)).say.getD i [] = sayRow (trK m data k) i (trK m data k).o.length := by
          show (cntY (trK m data k)).getD i [] = _
          rw [cntY, range_getD _ _ (show i < (trK m data k).m.start.length from hi)]
        have h1 := nz_addR ((allT m data k).say.getD i []) ((cntT (trK m data k)).say.getD i []) (by rw [hy, sayRow_len, hr.2]; rfl)
        have h2 := nz_sayRow (trK m data k) i (trK m data k).o.length
        have h3 : (trK m data k).o.length ≤ F := hF _ (getD_mem' data [] (show k < data.length by omega))
        rw [hy] at h1 ⊢
        omega
      · rw [List.getD_eq_getElem?_getD, List.getElem?_eq_none (by rw [addM_len]; omega)]
        exact Nat.zero_le _
end Go.Ear
