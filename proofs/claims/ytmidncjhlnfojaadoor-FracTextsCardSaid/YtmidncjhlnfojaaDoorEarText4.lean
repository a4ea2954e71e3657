/- About package frac: EarText4. -/
import Derived.Test.YtmidncjhlnfojaaDoorEarText3
set_option linter.all false
namespace Go.Ear
theorem near_int {n d m t : Int} (hd : 0 < d) (ht : 0 < t) (h1 : m * (d * 2) ≤ n * t * 2 + d) (h2 : n * t * 2 + d < (m + 1) * (d * 2)) :
    ((n : Rat) / (d : Rat) - (m : Rat) / (t : Rat)) * (2 * (t : Rat)) ≤ 1 ∧ -1 ≤ ((n : Rat) / (d : Rat) - (m : Rat) / (t : Rat)) * (2 * (t : Rat)) := by
  have hd' : (0 : Rat) < (d : Rat) := Rat.intCast_pos.2 hd
  have ht' : (0 : Rat) < (t : Rat) := Rat.intCast_pos.2 ht
  have h1' := Rat.intCast_le_intCast.2 h1
  have h2' := Rat.intCast_le_intCast.2 (Int.le_of_lt h2)
  simp only [Rat.intCast_mul, Rat.intCast_add] at h1' h2'
  have e1 : ((1 : Int) : Rat) = 1 := rfl
  have e2 : ((2 : Int) : Rat) = 2 := rfl
  rw [e2] at h1'
  rw [e2, e1] at h2'
  have hdn : (d : Rat) ≠ 0 := Rat.ne_of_gt hd'
  have htn : (t : Rat) ≠ 0 := Rat.ne_of_gt ht'
  have hq : ((n : Rat) / (d : Rat) - (m : Rat) / (t : Rat)) * (2 * (t : Rat)) * (d : Rat) = (n : Rat) * (t : Rat) * 2 - (m : Rat) * ((d : Rat) * 2) := by
    rw [Rat.div_def, Rat.div_def]
    have a1 : (d : Rat)⁻¹ * (d : Rat) = 1 := Rat.inv_mul_cancel _ hdn
    have a2 : (t : Rat)⁻¹ * (t : Rat) = 1 := Rat.inv_mul_cancel _ htn
    generalize (d : Rat)⁻¹ = di at *
    generalize (t : Rat)⁻¹ = ti at *
    grind
  generalize ((n : Rat) / (d : Rat) - (m : Rat) / (t : Rat)) * (2 * (t : Rat)) = y at *
  constructor
  · refine Rat.le_of_mul_le_mul_right (c := (d : Rat)) ?_ hd'
    rw [hq, Rat.one_mul]; grind
  · refine Rat.le_of_mul_le_mul_right (c := (d : Rat)) ?_ hd'
    rw [hq]; grind
theorem abs_or (x : Rat) : (Fr.mk false (frK x).n (frK x).d).rat = x ∨ (Fr.mk false (frK x).n (frK x).d).rat = -x := by
  rw [mk_abs]
  have h := ratOf_self x
  rw [ratOf_div] at h ⊢
  by_cases hn : x.num < 0
  · right
    rw [decide_eq_true hn] at h
    unfold sgn at h ⊢
    rw [if_pos rfl] at h
    rw [if_neg (by decide)]
    generalize x.num.natAbs = N at *
    generalize x.den = D at *
    rw [← h, Rat.div_def, Rat.div_def, Rat.intCast_neg, Rat.neg_mul, Rat.neg_neg]
  · left
    rw [decide_eq_false hn] at h
    exact h
theorem dec_floor (q : Rat) (p : Nat) : (decN q p : Int) * ((q.den : Int) * 2) ≤ (q.num.natAbs : Int) * ((10 ^ p : Nat) : Int) * 2 + (q.den : Int) ∧
    (q.num.natAbs : Int) * ((10 ^ p : Nat) : Int) * 2 + (q.den : Int) < ((decN q p : Int) + 1) * ((q.den : Int) * 2) := by
  have hp : 0 < q.den * 2 := Nat.mul_pos (Nat.pos_of_ne_zero q.den_nz) (by decide)
  have h1 := Nat.div_mul_le_self (q.num.natAbs * 10 ^ p * 2 + q.den) (q.den * 2)
  have h2 := Nat.lt_div_mul_add (a := q.num.natAbs * 10 ^ p * 2 + q.den) hp
  have e : (q.num.natAbs * 10 ^ p * 2 + q.den) / (q.den * 2) = decN q p := rfl
  rw [e] at h1 h2
  have h3 : q.num.natAbs * 10 ^ p * 2 + q.den < (decN q p + 1) * (q.den * 2) := by rw [Nat.add_mul, Nat.one_mul]; exact h2
  exact ⟨by exact_mod_cast h1, by exact_mod_cast h3⟩
theorem dec_near (q : Rat) (p : Nat) : ¬ (0 < sgQ ((Fr.mk false (frK (q - decR q p)).n (frK (q - decR q p)).d).rat * (((((2 : Nat) : Int)) : Rat) * powR ((((10 : Nat) : Int)) : Rat) ((p : Nat) : Int)) - ((((1 : Nat) : Int)) : Rat))) := by
  rw [sgQ_pos, powR10]
  have e1 : ((((1 : Nat) : Int)) : Rat) = 1 := rfl
  have e2 : ((((2 : Nat) : Int)) : Rat) = 2 := rfl
  rw [e1, e2]
  obtain ⟨f1, f2⟩ := dec_floor q p
  have hd : (0 : Int) < (q.den : Int) := by have := Nat.pos_of_ne_zero q.den_nz; omega
  have ht : (0 : Int) < ((10 ^ p : Nat) : Int) := by have := Nat.pow_pos (n := p) (show 0 < 10 by decide); omega
  obtain ⟨n1, n2⟩ := near_int hd ht f1 f2
  have hq := ratOf_self q
  have hx : q - decR q p = ((q.num.natAbs : Int) : Rat) / ((q.den : Int) : Rat) - ((decN q p : Int) : Rat) / ((((10 ^ p : Nat) : Int)) : Rat) ∨
      q - decR q p = -(((q.num.natAbs : Int) : Rat) / ((q.den : Int) : Rat) - ((decN q p : Int) : Rat) / ((((10 ^ p : Nat) : Int)) : Rat)) := by
    rw [ratOf_div] at hq
    unfold decR
    rw [ratOf_div]
    by_cases hn : q.num < 0
    · right
      rw [decide_eq_true hn] at hq
      have hr : ((sgn (decide (q.num < 0 ∧ decN q p ≠ 0)) (decN q p) : Int) : Rat) = -((decN q p : Int) : Rat) := by
        by_cases hm : decN q p = 0
        · rw [hm, decide_eq_false (fun h => h.2 rfl)]; rfl
        · rw [decide_eq_true ⟨hn, hm⟩]; unfold sgn; rw [if_pos rfl, Rat.intCast_neg]
      have hs : ((sgn true q.num.natAbs : Int) : Rat) = -((q.num.natAbs : Int) : Rat) := by unfold sgn; rw [if_pos rfl, Rat.intCast_neg]
      rw [hs] at hq
      rw [hr]
      clear hr hs n1 n2 f1 f2 hd ht e1 e2
      generalize ((q.num.natAbs : Int) : Rat) = N at *
      generalize ((q.den : Int) : Rat) = D at *
      generalize ((decN q p : Int) : Rat) = M
      generalize ((((10 ^ p : Nat) : Int)) : Rat) = T
      rw [Rat.div_def] at hq
      rw [Rat.div_def, Rat.div_def, Rat.div_def, ← hq]
      generalize D⁻¹ = Di
      generalize T⁻¹ = Ti
      grind
    · left
      rw [decide_eq_false hn] at hq
      have hr : ((sgn (decide (q.num < 0 ∧ decN q p ≠ 0)) (decN q p) : Int) : Rat) = ((decN q p : Int) : Rat) := by
        rw [decide_eq_false (fun h => hn h.1)]; rfl
      have hs : ((sgn false q.num.natAbs : Int) : Rat) = ((q.num.natAbs : Int) : Rat) := rfl
      rw [hs] at hq
      rw [hr, hq]
  generalize ((q.num.natAbs : Int) : Rat) / ((q.den : Int) : Rat) - ((decN q p : Int) : Rat) / ((((10 ^ p : Nat) : Int)) : Rat) = y at *
  generalize q - decR q p = x at *
  generalize ((((10 ^ p : Nat) : Int)) : Rat) = T at *
  have ha := abs_or x
  generalize (Fr.mk false (frK x).n (frK x).d).rat = z at *
  rw [Rat.not_lt]
  have hz : z = y ∨ z = -y := by
    rcases ha with ha | ha <;> rcases hx with hx | hx <;> rw [ha, hx]
    · exact .inl rfl
    · exact .inr rfl
    · exact .inr rfl
    · left; rw [Rat.neg_neg]
  rcases hz with rfl | rfl <;> grind
theorem sz_decN (q : Rat) (p : Nat) : sz (decN q p) ≤ 2 * bq q + p * sz 10 + 4 := by
  have h1 := bq_num q
  have h2 := bq_den q
  have a0 := sz_pow 10 p
  have a1 := sz_mul q.num.natAbs (10 ^ p)
  have a2 := sz_mul (q.num.natAbs * 10 ^ p) 2
  have a3 := sz_add (q.num.natAbs * 10 ^ p * 2) q.den
  have a4 := sz_mono (Nat.div_le_self (q.num.natAbs * 10 ^ p * 2 + q.den) (q.den * 2))
  have a5 := sz_small (n := 2) (by decide)
  have e : (q.num.natAbs * 10 ^ p * 2 + q.den) / (q.den * 2) = decN q p := rfl
  rw [e] at a4
  omega
theorem decimal_len {q : Rat} {p : Nat} (hp : p ≤ 1000) : (decimalQ q (p : Int)).length ≤ p + 20 * bq q + 10 * (p * sz 10) + 60 := by
  have h1 := sz_decN q p
  have h2 := decT_len (decN q p)
  have h3 : (padT p (decT (decN q p))).length ≤ p + 1 + (decT (decN q p)).length := by unfold padT; rw [List.length_append, List.length_replicate]; omega
  have h4 : ∀ s : List UInt8, (dotT p s).length ≤ s.length + 1 := by
    intro s; unfold dotT
    split
    · omega
    · rw [List.length_append, List.length_cons, List.length_take, List.length_drop]; omega
  have h5 := h4 (padT p (decT (decN q p)))
  rw [decimal_of hp, List.length_append]
  split <;> simp <;> omega
theorem bq_decR (q : Rat) (p : Nat) : bq (decR q p) ≤ 2 * bq q + p * sz 10 + 5 := by
  have h1 := sz_decN q p
  have h2 := sz_pow 10 p
  exact bq_ratOf (Nat.pos_iff_ne_zero.1 (Nat.pow_pos (by decide))) (by omega) (by omega)
end Go.Ear
