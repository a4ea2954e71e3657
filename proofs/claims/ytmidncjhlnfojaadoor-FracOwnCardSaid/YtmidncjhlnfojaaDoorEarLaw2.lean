/- About package frac: EarLaw2. -/
import Derived.Test.YtmidncjhlnfojaaDoorEarLaw
set_option linter.all false
namespace Go.Ear
theorem cond_t {c t f : Bool} (h : cond c t f = true) : (c = true ∧ t = true) ∨ (c = false ∧ f = true) := by cases c <;> simp_all
theorem cond_f {c t f : Bool} (h : cond c t f = false) : (c = true ∧ t = false) ∨ (c = false ∧ f = false) := by cases c <;> simp_all
theorem sameF_z {q : Rat} (h : q = 0) : sameF (frK q) ⟨false, [], []⟩ = true := by
  subst h
  have : frK 0 = ⟨false, [], []⟩ := by unfold frK; simp [digs_zero]
  rw [this]; exact sameF_self _
theorem powE_long {q : Rat} {n : Int} (h : n > 4096 ∨ n < -4096) : powE q n = 5 := by unfold powE; rw [if_pos h]
theorem powQ_long {q : Rat} {n : Int} (h : n > 4096 ∨ n < -4096) : powQ q n = 0 := by unfold powQ; rw [if_pos h]
theorem powE_zero {q : Rat} {n : Int} (h : ¬ (n > 4096 ∨ n < -4096)) (h1 : n < 0) (h2 : q = 0) : powE q n = 3 := by unfold powE; rw [if_neg h, if_pos ⟨h1, h2⟩]
theorem powE_ok {q : Rat} {n : Int} (h : ¬ (n > 4096 ∨ n < -4096)) (h1 : ¬ (n < 0 ∧ q = 0)) : powE q n = 0 := by unfold powE; rw [if_neg h, if_neg h1]
theorem zero_pow' {k : Nat} (h : k ≠ 0) : (0 : Rat) ^ k = 0 := by
  cases k with
  | zero => exact absurd rfl h
  | succ k => rw [Rat.pow_succ, Rat.mul_zero]
theorem powQ_zero {q : Rat} {n : Int} (h1 : n < 0) (h2 : q = 0) : powQ q n = 0 := by
  unfold powQ
  by_cases h : n > 4096 ∨ n < -4096
  · rw [if_pos h]
  · rw [if_neg h, if_pos h1, h2, Rat.inv_zero]; exact zero_pow' (by omega)
theorem powQ_powR {q : Rat} {n : Int} (h : ¬ (n > 4096 ∨ n < -4096)) : powQ q n = powR q n := by
  unfold powQ powR powB; rw [if_neg h]; split <;> rfl
theorem sgQ_bd (q : Rat) : -1 ≤ sgQ q ∧ sgQ q ≤ 1 := by unfold sgQ; split <;> (try split) <;> decide
theorem sgQ_flip (a b : Rat) : sgQ (b - a) = -sgQ (a - b) := by
  have h1 := sgQ_neg (q := b - a); have h2 := sgQ_neg (q := a - b)
  have h3 := sgQ_pos (q := b - a); have h4 := sgQ_pos (q := a - b)
  have hb := sgQ_bd (b - a); have ha := sgQ_bd (a - b)
  have e1 : (b - a < 0) ↔ (0 < a - b) := by constructor <;> intro h <;> grind
  have e2 : (0 < b - a) ↔ (a - b < 0) := by constructor <;> intro h <;> grind
  rw [e1, ← h4] at h1; rw [e2, ← h2] at h3
  omega
theorem bq_floorQ {q : Rat} {d : Int} (h1 : -9223372036854775808 ≤ d) (h2 : d ≤ 9223372036854775807) : bq (floorQ q d) ≤ bq q + 10 := by
  unfold floorQ
  split
  · have := bq_zero; omega
  · have := bq_intc h1 h2; have := bq_mul q (d : Rat); have := bq_floor (q * (d : Rat)); have := bq_inv' (d : Rat)
    have := bq_mul ((q * (d : Rat)).floor : Rat) ((d : Rat))⁻¹
    omega
theorem floor_ge {q : Rat} {d : Int} (h : ¬ d < 1) : 0 ≤ sgQ (q - floorQ q d) := by
  have hd : (0 : Rat) < (d : Rat) := Rat.intCast_pos.2 (by omega)
  have h0 : (d : Rat) ≠ 0 := fun e => by rw [e] at hd; exact absurd hd (by decide)
  unfold floorQ; rw [if_neg h]
  have h1 := Rat.floor_le (a := q * (d : Rat))
  have h2 : ((q * (d : Rat)).floor : Rat) * (d : Rat)⁻¹ ≤ q * (d : Rat) * (d : Rat)⁻¹ := Rat.mul_le_mul_of_nonneg_right h1 (Rat.le_of_lt (Rat.inv_pos.2 hd))
  rw [Rat.mul_assoc, Rat.mul_inv_cancel _ h0, Rat.mul_one] at h2
  have h3 := sgQ_neg (q := q - ((q * (d : Rat)).floor : Rat) * (d : Rat)⁻¹)
  have h4 : ¬ (q - ((q * (d : Rat)).floor : Rat) * (d : Rat)⁻¹ < 0) := by grind
  have := mt h3.1 h4
  omega
theorem floor_lt {q : Rat} {d : Int} (h : ¬ d < 1) : sgQ ((q - floorQ q d) - (((1 : Int) : Rat) / (d : Rat))) < 0 := by
  have hd : (0 : Rat) < (d : Rat) := Rat.intCast_pos.2 (by omega)
  have h0 : (d : Rat) ≠ 0 := fun e => by rw [e] at hd; exact absurd hd (by decide)
  unfold floorQ; rw [if_neg h]
  rw [sgQ_neg]
  have h1 := Rat.lt_floor_add_one (a := q * (d : Rat))
  have h2 := Rat.mul_lt_mul_of_pos_right h1 (Rat.inv_pos.2 hd)
  rw [Rat.mul_assoc, Rat.mul_inv_cancel _ h0, Rat.mul_one, Rat.intCast_add, Rat.add_mul] at h2
  rw [Rat.div_def]
  grind
theorem bq_powQ {q : Rat} {n : Int} (h : n.natAbs ≤ 12 ∨ (n > 4096 ∨ n < -4096)) : bq (powQ q n) ≤ 12 * bq q + 1 := by
  unfold powQ
  by_cases h1 : n > 4096 ∨ n < -4096
  · rw [if_pos h1]; have := bq_zero; omega
  · rw [if_neg h1]
    have h2 : n.natAbs ≤ 12 := by omega
    split
    · have := bq_pow q⁻¹ n.natAbs; have := bq_inv' q; have := Nat.mul_le_mul h2 this; omega
    · have := bq_pow q n.natAbs; have := Nat.mul_le_mul_right (bq q) h2; omega
theorem bq_powP {q : Rat} {n : Int} (h : n.natAbs ≤ 200) : bq (powQ q n) ≤ 200 * bq q + 1 := by
  unfold powQ
  by_cases h1 : n > 4096 ∨ n < -4096
  · rw [if_pos h1]; have := bq_zero; omega
  · rw [if_neg h1]
    split
    · have := bq_pow q⁻¹ n.natAbs; have := bq_inv' q; have := Nat.mul_le_mul h this; omega
    · have := bq_pow q n.natAbs; have := Nat.mul_le_mul_right (bq q) h; omega
theorem pow_add' (q : Rat) (n : Nat) : ∀ m : Nat, q ^ (n + m) = q ^ n * q ^ m
  | 0 => by rw [Nat.add_zero, Rat.pow_zero, Rat.mul_one]
  | m + 1 => by rw [← Nat.add_assoc, Rat.pow_succ, pow_add' q n m, Rat.pow_succ, Rat.mul_assoc]
theorem powQ_add {q : Rat} {n m : Int} (h1 : 0 ≤ n) (h2 : n ≤ 100) (h3 : 0 ≤ m) (h4 : m ≤ 100) : powQ q n * powQ q m = powQ q (n + m) := by
  unfold powQ
  rw [if_neg (by omega), if_neg (by omega), if_neg (by omega), if_neg (by omega), if_neg (by omega), if_neg (by omega), show (n + m).natAbs = n.natAbs + m.natAbs by omega, pow_add']
theorem ord_trans {a b c : Rat} (h1 : sgQ (a - b) ≤ 0) (h2 : sgQ (b - c) ≤ 0) : ¬ (0 < sgQ (a - c)) := by
  intro h
  have h3 := sgQ_pos.1 h
  have h4 : ¬ (0 < a - b) := fun e => by have := sgQ_pos.2 e; omega
  have h5 : ¬ (0 < b - c) := fun e => by have := sgQ_pos.2 e; omega
  grind
theorem sgQ_eq {x y : Rat} (h : x = y) : sgQ x = sgQ y := by rw [h]
theorem sg_mul_bd (x y : Rat) : -1 ≤ sgQ x * sgQ y ∧ sgQ x * sgQ y ≤ 1 := by
  have h1 := sgQ_bd x; have h2 := sgQ_bd y
  have h3 : sgQ x = -1 ∨ sgQ x = 0 ∨ sgQ x = 1 := by omega
  rcases h3 with h | h | h <;> rw [h] <;> omega
theorem sgQ_mul (x y : Rat) : sgQ (x * y) = sgQ x * sgQ y := by
  have px := sgQ_pos (q := x); have nx := sgQ_neg (q := x); have zx := sgQ_zero (q := x)
  have py := sgQ_pos (q := y); have ny := sgQ_neg (q := y); have zy := sgQ_zero (q := y)
  have p := sgQ_pos (q := x * y); have n := sgQ_neg (q := x * y); have z := sgQ_zero (q := x * y)
  have bx := sgQ_bd x; have by' := sgQ_bd y; have bz := sgQ_bd (x * y)
  by_cases x0 : x = 0
  · rw [zx.2 x0, z.2 (by rw [x0, Rat.zero_mul])]; omega
  · by_cases y0 : y = 0
    · rw [zy.2 y0, z.2 (by rw [y0, Rat.mul_zero])]; omega
    · by_cases hx : 0 < x
      · by_cases hy : 0 < y
        · have e1 : sgQ x = 1 := by have := px.2 hx; omega
          have e2 : sgQ y = 1 := by have := py.2 hy; omega
          have := p.2 (Rat.mul_pos hx hy)
          rw [e1, e2]; omega
        · have hy' : y < 0 := by grind
          have e1 : sgQ x = 1 := by have := px.2 hx; omega
          have e2 : sgQ y = -1 := by have := ny.2 hy'; omega
          have h9 : x * y < 0 := by have := Rat.mul_pos hx (show 0 < -y by grind); grind
          have := n.2 h9
          rw [e1, e2]; omega
      · have hx' : x < 0 := by grind
        have e1 : sgQ x = -1 := by have := nx.2 hx'; omega
        by_cases hy : 0 < y
        · have e2 : sgQ y = 1 := by have := py.2 hy; omega
          have h9 : x * y < 0 := by have := Rat.mul_pos (show 0 < -x by grind) hy; grind
          have := n.2 h9
          rw [e1, e2]; omega
        · have hy' : y < 0 := by grind
          have e2 : sgQ y = -1 := by have := ny.2 hy'; omega
          have h9 : 0 < x * y := by have := Rat.mul_pos (show 0 < -x by grind) (show 0 < -y by grind); grind
          have := p.2 h9
          rw [e1, e2]; omega
theorem sameF_K (p q : Rat) : sameF (frK p) (frK q) = decide (p = q) := by
  by_cases h : p = q
  · rw [h, sameF_self]; simp
  · rw [decide_eq_false h, ← Bool.not_eq_true]
    intro e
    apply h
    have e2 : frK p = frK q := by
      unfold sameF at e
      simp only [Bool.and_eq_true, decide_eq_true_eq] at e
      obtain ⟨e1, e2, e3⟩ := e
      cases hp : frK p; cases hq : frK q; simp_all
    rw [← frK_rat p, e2, frK_rat]
theorem same_cmp (p q : Rat) : (decide (sgQ (p - q) = 0) == sameF (frK p) (frK q)) = true := by
  rw [sameF_K, beq_iff_eq, Bool.eq_iff_iff, decide_eq_true_iff, decide_eq_true_iff, sgQ_zero]
  constructor <;> intro h <;> grind
def bigN (m : Nat) (f : Fr) : Bool := decide (m < f.n.length) || decide (m < f.d.length)
theorem bigN_t {m : Nat} {f : Fr} (h : m < f.n.length ∨ m < f.d.length) : bigN m f = true := by unfold bigN; rw [Bool.or_eq_true, decide_eq_true_iff, decide_eq_true_iff]; exact h
theorem bigN_f {m : Nat} {f : Fr} (h : ¬ (m < f.n.length ∨ m < f.d.length)) : bigN m f = false := by rw [← Bool.not_eq_true]; unfold bigN; rw [Bool.or_eq_true, decide_eq_true_iff, decide_eq_true_iff]; exact h
theorem wts_small {m : Nat} : ∀ {l : List Fr}, l.any (bigN m) = false → wts l ≤ (m + 2) * l.length
  | [], _ => by simp [wts]
  | f :: l, h => by
    rw [List.any_cons, Bool.or_eq_false_iff] at h
    have h1 := wts_small h.2
    have h2 : ¬ (m < f.n.length ∨ m < f.d.length) := fun e => by rw [bigN_t e] at h; exact absurd h.1 (by decide)
    rw [wts_cons, List.length_cons, Nat.mul_succ]
    unfold bf; omega
end Go.Ear
