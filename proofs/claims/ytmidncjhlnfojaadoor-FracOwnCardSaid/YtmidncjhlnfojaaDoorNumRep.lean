/- About package frac: NumRep. -/
import Derived.Test.YtmidncjhlnfojaaDoorNatLaw3
set_option linter.all false
set_option linter.unusedSimpArgs false
namespace Go.Ear
structure Fr where
  neg : Bool
  n : List Nat
  d : List Nat
def F (h : PH) (v : Value) (f : Fr) : Prop := ∃ x y, v = .agg #[.bool f.neg, x, y] ∧ U h x f.n ∧ U h y f.d
def frQ (q : Rat) : Fr := ⟨decide (q.num < 0), digs q.num.natAbs, digs q.den⟩
def frK (q : Rat) : Fr := ⟨decide (q.num < 0), digs q.num.natAbs, if q.den = 1 then [] else digs q.den⟩
def Qn (h : PH) (v : Value) (q : Rat) : Prop := F h v (frQ q)
def Kn (h : PH) (v : Value) (q : Rat) : Prop := F h v (frK q)
def ratOf (s : Bool) (n d : Nat) : Rat := mkRat (if s then -(n : Int) else n) d
def Fr.rat (f : Fr) : Rat := ratOf f.neg (val f.n) (if val f.d = 0 then 1 else val f.d)
theorem F.mono {h h' : PH} {v : Value} {f : Fr} (u : F h v f) (e : h.le h') : F h' v f := by
  obtain ⟨x, y, e1, a, b⟩ := u; exact ⟨x, y, e1, a.mono e, b.mono e⟩
theorem Qn.mono {h h' : PH} {v : Value} {q : Rat} (u : Qn h v q) (e : h.le h') : Qn h' v q := F.mono u e
theorem Kn.mono {h h' : PH} {v : Value} {q : Rat} (u : Kn h v q) (e : h.le h') : Kn h' v q := F.mono u e
theorem F.cast {h : PH} {v : Value} {f g : Fr} (e : f = g) (u : F h v f) : F h v g := e ▸ u
theorem Qn.cast {h : PH} {v : Value} {f g : Rat} (e : f = g) (u : Qn h v f) : Qn h v g := e ▸ u
theorem Kn.cast {h : PH} {v : Value} {f g : Rat} (e : f = g) (u : Kn h v f) : Kn h v g := e ▸ u
theorem F.shape {h : PH} {v : Value} {f : Fr} (u : F h v f) : ∃ b1 c1 b2 c2, v = .agg #[.bool f.neg, .slice b1 f.n.length c1, .slice b2 f.d.length c2] ∧ f.n.length ≤ c1 ∧ f.d.length ≤ c2 ∧
    U h (.slice b1 f.n.length c1) f.n ∧ U h (.slice b2 f.d.length c2) f.d := by
  obtain ⟨x, y, e, a, b⟩ := u
  obtain ⟨b1, c1, rfl, h1⟩ := a.shape
  obtain ⟨b2, c2, rfl, h2⟩ := b.shape
  exact ⟨b1, c1, b2, c2, e, h1, h2, a, b⟩
theorem Qn.shape {h : PH} {v : Value} {q : Rat} (u : Qn h v q) : ∃ b1 c1 b2 c2, v = .agg #[.bool (decide (q.num < 0)), .slice b1 (digs q.num.natAbs).length c1, .slice b2 (digs q.den).length c2] ∧ (digs q.num.natAbs).length ≤ c1 ∧ (digs q.den).length ≤ c2 ∧
    N h (.slice b1 (digs q.num.natAbs).length c1) q.num.natAbs ∧ N h (.slice b2 (digs q.den).length c2) q.den := F.shape u
theorem F.mk {h : PH} {s : Bool} {x y : Value} {n d : List Nat} (a : U h x n) (b : U h y d) : F h (.agg #[.bool s, x, y]) ⟨s, n, d⟩ := ⟨x, y, rfl, a, b⟩
theorem Qn.mk {h : PH} {s : Bool} {x y : Value} {n d : Nat} {q : Rat} (a : N h x n) (b : N h y d) (hs : s = decide (q.num < 0)) (hn : n = q.num.natAbs) (hd : d = q.den) : Qn h (.agg #[.bool s, x, y]) q := by
  subst hs hn hd; exact ⟨x, y, rfl, a, b⟩
theorem ratOf_eq {s : Bool} {n d : Nat} (hd : d ≠ 0) : (ratOf s n d).num = (if s then -(n : Int) else n) / (Nat.gcd n d : Nat) ∧ (ratOf s n d).den = d / Nat.gcd n d := by
  unfold ratOf
  rw [← Rat.normalize_eq_mkRat hd, Rat.normalize_eq]
  have e : (if s then -(n : Int) else (n : Int)).natAbs = n := by cases s <;> simp
  simp only [e, and_self]
theorem gcd_pos' {n d : Nat} (hd : d ≠ 0) : 0 < Nat.gcd n d := Nat.gcd_pos_of_pos_right _ (Nat.pos_of_ne_zero hd)
theorem ratOf_den {s : Bool} {n d : Nat} (hd : d ≠ 0) : d / Nat.gcd n d = (ratOf s n d).den := (ratOf_eq hd).2.symm
theorem ratOf_abs {s : Bool} {n d : Nat} (hd : d ≠ 0) : n / Nat.gcd n d = (ratOf s n d).num.natAbs := by
  rw [(ratOf_eq hd).1]
  obtain ⟨k, hk⟩ := Nat.gcd_dvd_left n d
  have hp := gcd_pos' (n := n) hd
  generalize Nat.gcd n d = g at *
  subst hk
  rw [Nat.mul_div_cancel_left _ hp]
  cases s
  · simp only [Bool.false_eq_true, if_false]
    rw [Int.natCast_mul, Int.mul_ediv_cancel_left _ (by omega)]; simp
  · simp only [if_true]
    rw [Int.natCast_mul, ← Int.mul_neg, Int.mul_ediv_cancel_left _ (by omega)]; simp
theorem ratOf_neg {s : Bool} {n d : Nat} (hd : d ≠ 0) : (s && decide (0 < n / Nat.gcd n d)) = decide ((ratOf s n d).num < 0) := by
  rw [(ratOf_eq hd).1]
  obtain ⟨k, hk⟩ := Nat.gcd_dvd_left n d
  have hp := gcd_pos' (n := n) hd
  generalize Nat.gcd n d = g at *
  subst hk
  rw [Nat.mul_div_cancel_left _ hp]
  cases s
  · simp only [Bool.false_and, Bool.false_eq_true, if_false]
    rw [Int.natCast_mul, Int.mul_ediv_cancel_left _ (by omega)]; simp
  · simp only [Bool.true_and, if_true]
    rw [Int.natCast_mul, ← Int.mul_neg, Int.mul_ediv_cancel_left _ (by omega)]
    congr 1; apply propext; omega
theorem ratOf_self (q : Rat) : ratOf (decide (q.num < 0)) q.num.natAbs q.den = q := by
  unfold ratOf
  have : (if decide (q.num < 0) = true then -((q.num.natAbs : Nat) : Int) else (q.num.natAbs : Int)) = q.num := by
    by_cases h : q.num < 0
    · rw [if_pos (by simpa using h)]; omega
    · rw [if_neg (by simpa using h)]; omega
  rw [this, Rat.mkRat_self]
theorem frQ_rat (q : Rat) : (frQ q).rat = q := by
  unfold Fr.rat frQ
  simp only [val_digs, q.den_nz, if_false]; exact ratOf_self q
theorem frK_rat (q : Rat) : (frK q).rat = q := by
  unfold Fr.rat frK
  simp only [val_digs]
  by_cases h : q.den = 1
  · have e := ratOf_self q
    rw [h] at e
    simp only [h, if_true, val]; exact e
  · simp only [if_neg h, val_digs, q.den_nz, if_false]; exact ratOf_self q
def bq (q : Rat) : Nat := max (sz q.num.natAbs) (sz q.den)
theorem bq_num (q : Rat) : sz q.num.natAbs ≤ bq q := Nat.le_max_left ..
theorem bq_den (q : Rat) : sz q.den ≤ bq q := Nat.le_max_right ..
theorem bq_ratOf {s : Bool} {n d B : Nat} (hd : d ≠ 0) (h1 : sz n ≤ B) (h2 : sz d ≤ B) : bq (ratOf s n d) ≤ B := by
  unfold bq
  rw [← ratOf_abs hd, ← ratOf_den hd]
  exact Nat.max_le.2 ⟨Nat.le_trans (sz_mono (Nat.div_le_self ..)) h1, Nat.le_trans (sz_mono (Nat.div_le_self ..)) h2⟩
theorem digs_len_pos (n : Nat) : decide (0 < (digs n).length) = decide (0 < n) := by
  congr 1; apply propext
  have := sz_eq_zero (n := n)
  unfold sz at this; omega
theorem stab_F (f : Fr) : Stab fun h _ x => F h x f := fun _ _ _ _ _ g u => u.mono g.le
theorem stab_Q (q : Rat) : Stab fun h _ x => Qn h x q := fun _ _ _ _ _ g u => F.mono u g.le
theorem stab_K (q : Rat) : Stab fun h _ x => Kn h x q := fun _ _ _ _ _ g u => F.mono u g.le
theorem Nnil (h : PH) (b : Option Addr) (c : Nat) : N h (.slice b 0 c) 0 := U.ofDigs (U.nil h b c) digs_zero
theorem F.fit {h : PH} {v : Value} {f : Fr} (u : F h v f) : Fit f.n ∧ Fit f.d := by obtain ⟨x, y, _, a, b⟩ := u; exact ⟨a.1, b.1⟩
theorem F.szs {h : PH} {v : Value} {f : Fr} (u : F h v f) : sz (val f.n) ≤ f.n.length ∧ sz (val f.d) ≤ f.d.length := ⟨sz_len u.fit.1, sz_len u.fit.2⟩
theorem len_zero {n : Nat} : (digs n).length = 0 ↔ n = 0 := sz_eq_zero
theorem Fr.rat_z {f : Fr} (h : (digs (val f.d)).length = 0) : ratOf f.neg (val f.n) 1 = f.rat := by unfold Fr.rat; rw [if_pos (len_zero.1 h)]
theorem Fr.rat_nz {f : Fr} (h : ¬ (digs (val f.d)).length = 0) : ratOf f.neg (val f.n) (val f.d) = f.rat := by unfold Fr.rat; rw [if_neg (fun e => h (len_zero.2 e))]
theorem ratOf_zero {s : Bool} {d : Nat} : ratOf s 0 d = 0 := by unfold ratOf; cases s <;> simp
theorem num_zero {q : Rat} : (digs q.num.natAbs).length = 0 ↔ q = 0 := by rw [len_zero, Int.natAbs_eq_zero, Rat.num_eq_zero]
theorem neg_mk {q : Rat} : ((!decide (q.num < 0)) && decide (0 < (digs q.num.natAbs).length)) = decide ((-q).num < 0) := by
  rw [digs_len_pos, Rat.neg_num, Bool.eq_iff_iff]
  simp only [Bool.and_eq_true, Bool.not_eq_true', decide_eq_true_eq, decide_eq_false_iff_not]; omega
theorem neg_abs {q : Rat} : q.num.natAbs = (-q).num.natAbs := by rw [Rat.neg_num]; omega
def sgn (s : Bool) (n : Nat) : Int := if s then -(n : Int) else n
theorem sgn_num (q : Rat) : sgn (decide (q.num < 0)) q.num.natAbs = q.num := by
  unfold sgn
  by_cases h : q.num < 0
  · rw [if_pos (by simpa using h)]; omega
  · rw [if_neg (by simpa using h)]; omega
theorem mul_mk {a b : Rat} : ratOf (decide (a.num < 0) != decide (b.num < 0)) (a.num.natAbs * b.num.natAbs) (a.den * b.den) = a * b := by
  unfold ratOf
  rw [Rat.mul_def, Rat.normalize_eq_mkRat (Nat.mul_ne_zero a.den_nz b.den_nz)]
  congr 1
  have ea := sgn_num a
  have eb := sgn_num b
  rw [Int.natCast_mul]
  by_cases h1 : a.num < 0 <;> by_cases h2 : b.num < 0
  all_goals
    simp only [h1, h2, decide_true, decide_false, sgn, Bool.false_eq_true, if_false, if_true, bne_self_eq_false, Bool.true_bne, Bool.false_bne, Bool.not_false, Bool.not_true] at ea eb ⊢
    rw [← ea, ← eb]; grind
theorem add_def' (a b : Rat) : mkRat (a.num * b.den + b.num * a.den) (a.den * b.den) = a + b := by
  rw [Rat.add_def, Rat.normalize_eq_mkRat (Nat.mul_ne_zero a.den_nz b.den_nz)]
theorem add_same {a b : Rat} (h : decide (a.num < 0) = decide (b.num < 0)) : ratOf (decide (a.num < 0)) (a.num.natAbs * b.den + b.num.natAbs * a.den) (a.den * b.den) = a + b := by
  rw [← add_def']
  unfold ratOf
  congr 1
  have ea := sgn_num a
  have eb := sgn_num b
  rw [Int.natCast_add, Int.natCast_mul, Int.natCast_mul]
  by_cases h1 : a.num < 0 <;> by_cases h2 : b.num < 0
  · simp only [h1, h2, decide_true, decide_false, sgn, Bool.false_eq_true, if_false, if_true] at ea eb ⊢; rw [← ea, ← eb]; grind
  · exact absurd h (by simp [h1, h2])
  · exact absurd h (by simp [h1, h2])
  · simp only [h1, h2, decide_true, decide_false, sgn, Bool.false_eq_true, if_false, if_true] at ea eb ⊢; rw [← ea, ← eb]; grind
theorem add_lt {a b : Rat} (h : ¬ decide (a.num < 0) = decide (b.num < 0)) (hl : a.num.natAbs * b.den ≤ b.num.natAbs * a.den) : ratOf (decide (b.num < 0)) (b.num.natAbs * a.den - a.num.natAbs * b.den) (a.den * b.den) = a + b := by
  rw [← add_def']
  unfold ratOf
  congr 1
  have ea := sgn_num a
  have eb := sgn_num b
  have e3 : ((b.num.natAbs * a.den - a.num.natAbs * b.den : Nat) : Int) = (b.num.natAbs : Int) * a.den - a.num.natAbs * b.den := by omega
  rw [e3]
  by_cases h1 : a.num < 0 <;> by_cases h2 : b.num < 0
  · exact absurd (by simp [h1, h2]) h
  · simp only [h1, h2, decide_true, decide_false, sgn, Bool.false_eq_true, if_false, if_true] at ea eb ⊢; rw [← ea, ← eb]; grind
  · simp only [h1, h2, decide_true, decide_false, sgn, Bool.false_eq_true, if_false, if_true] at ea eb ⊢; rw [← ea, ← eb]; grind
  · exact absurd (by simp [h1, h2]) h
theorem add_ge {a b : Rat} (h : ¬ decide (a.num < 0) = decide (b.num < 0)) (hl : b.num.natAbs * a.den ≤ a.num.natAbs * b.den) : ratOf (decide (a.num < 0)) (a.num.natAbs * b.den - b.num.natAbs * a.den) (a.den * b.den) = a + b := by
  rw [Rat.add_comm, Nat.mul_comm a.den]
  exact add_lt (fun e => h e.symm) hl
theorem inv_abs {q : Rat} (h : q ≠ 0) : q.den = (q⁻¹).num.natAbs := by
  rw [Rat.num_inv, Int.natAbs_mul, Int.natAbs_sign_of_ne_zero (fun e => h (Rat.num_eq_zero.1 e))]; simp
theorem inv_den {q : Rat} (h : q ≠ 0) : q.num.natAbs = (q⁻¹).den := by
  rw [Rat.den_inv, if_neg (fun e => h (Rat.num_eq_zero.1 e))]
theorem inv_sign {q : Rat} : decide (q.num < 0) = decide ((q⁻¹).num < 0) := by
  congr 1; apply propext
  rw [Rat.num_inv]
  have hd : (0 : Int) < q.den := by have := q.den_pos; omega
  rcases Int.lt_trichotomy q.num 0 with h | h | h
  · rw [Int.sign_eq_neg_one_of_neg h]; omega
  · rw [h]; simp
  · rw [Int.sign_eq_one_of_pos h]; omega
def sgQ (q : Rat) : Int := if q = 0 then 0 else if q.num < 0 then -1 else 1
theorem sz_le_add {a b c : Nat} (h : a ≤ b) (h2 : sz b ≤ c) : sz a ≤ c := Nat.le_trans (sz_mono h) h2
theorem mkRat_ratOf (z : Int) (d : Nat) : mkRat z d = ratOf (decide (z < 0)) z.natAbs d := by
  unfold ratOf; congr 1
  by_cases h : z < 0
  · rw [if_pos (by simpa using h)]; omega
  · rw [if_neg (by simpa using h)]; omega
theorem bq_mkRat {z : Int} {d n B : Nat} (hd : d ≠ 0) (h : z.natAbs ≤ n) (h1 : sz n ≤ B) (h2 : sz d ≤ B) : bq (mkRat z d) ≤ B := by
  rw [mkRat_ratOf]; exact bq_ratOf hd (sz_le_add h h1) h2
theorem sz_mul' {a b A B : Nat} (h1 : sz a ≤ A) (h2 : sz b ≤ B) : sz (a * b) ≤ A + B := Nat.le_trans (sz_mul ..) (Nat.add_le_add h1 h2)
theorem bq_add (a b : Rat) : bq (a + b) ≤ bq a + bq b + 1 := by
  rw [← add_def']
  refine bq_mkRat (n := a.num.natAbs * b.den + b.num.natAbs * a.den) (Nat.mul_ne_zero a.den_nz b.den_nz) ?_ ?_ ?_
  · refine Nat.le_trans (Int.natAbs_add_le _ _) ?_
    rw [Int.natAbs_mul, Int.natAbs_mul]; simp
  · refine Nat.le_trans (sz_add _ _) (Nat.add_le_add_right (Nat.max_le.2 ⟨sz_mul' (bq_num _) (bq_den _), ?_⟩) _)
    rw [Nat.add_comm]; exact sz_mul' (bq_num _) (bq_den _)
  · exact Nat.le_succ_of_le (sz_mul' (bq_den _) (bq_den _))
theorem bq_mul (a b : Rat) : bq (a * b) ≤ bq a + bq b := by
  rw [← mul_mk]
  exact bq_ratOf (Nat.mul_ne_zero a.den_nz b.den_nz) (sz_mul' (bq_num _) (bq_num _)) (sz_mul' (bq_den _) (bq_den _))
theorem bq_neg (a : Rat) : bq (-a) = bq a := by unfold bq; rw [← neg_abs, Rat.neg_den]
theorem bq_inv {a : Rat} (h : a ≠ 0) : bq a⁻¹ = bq a := by unfold bq; rw [← inv_abs h, ← inv_den h, Nat.max_comm]
theorem bq_rat {f : Fr} (ff : Fit f.n ∧ Fit f.d) : bq f.rat ≤ max (max f.n.length f.d.length) 1 := by
  unfold Fr.rat
  refine bq_ratOf (by split <;> omega) (Nat.le_trans (sz_len ff.1) (by omega)) ?_
  split
  · rw [sz_one]; omega
  · exact Nat.le_trans (sz_len ff.2) (by omega)
theorem bq_int (n : Int) (h : n.natAbs < 18446744073709551616) : bq (n : Rat) ≤ 2 := by
  unfold bq
  rw [Rat.num_intCast, Rat.den_intCast, sz_one]
  exact Nat.max_le.2 ⟨sz_small h, by omega⟩
theorem bq_K (q : Rat) : (frK q).n.length ≤ bq q ∧ (frK q).d.length ≤ bq q := by
  refine ⟨bq_num q, ?_⟩
  unfold frK
  simp only
  split
  · simp
  · exact bq_den q
theorem Kn.toQ {q : Rat} : (frK q).rat = q := frK_rat q
theorem floor_neg {q : Rat} (hn : q.num < 0) (hr : 0 < q.num.natAbs % q.den) : ((q.floor : Rat)).num = -((q.num.natAbs / q.den + 1 : Nat) : Int) := by
  rw [Rat.num_intCast, Rat.floor_def]
  have hd := q.den_pos
  have h1 := Nat.div_add_mod q.num.natAbs q.den
  have e : q.num = -(q.num.natAbs : Int) := by omega
  generalize q.num.natAbs = a at *
  generalize q.den = d at *
  rw [e]
  have hlt := Nat.mod_lt a hd
  generalize a / d = k at *
  generalize a % d = r at *
  have : -(a : Int) = ((d - r : Nat) : Int) + (d : Int) * (-(k + 1 : Nat) : Int) := by
    rw [← h1]; push_cast [Nat.le_of_lt hlt]; grind
  rw [this, Int.add_mul_ediv_left _ _ (by omega), Int.ediv_eq_zero_of_lt (by omega) (by omega)]; simp
theorem floor_pos {q : Rat} (h : ¬ (q.num < 0 ∧ 0 < q.num.natAbs % q.den)) : ((q.floor : Rat)).num = sgn (decide (q.num < 0)) (q.num.natAbs / q.den) := by
  rw [Rat.num_intCast, Rat.floor_def]
  have hd := q.den_pos
  have h1 := Nat.div_add_mod q.num.natAbs q.den
  unfold sgn
  by_cases hn : q.num < 0
  · rw [if_pos (by simpa using hn)]
    have hr : q.num.natAbs % q.den = 0 := by omega
    have e : q.num = -(q.num.natAbs : Int) := by omega
    rw [hr] at h1
    generalize q.num.natAbs = a at *
    rw [e, ← h1, Nat.add_zero, Nat.mul_div_cancel_left _ hd, Int.natCast_mul, ← Int.mul_neg, Int.mul_ediv_cancel_left _ (by omega)]
  · rw [if_neg (by simpa using hn)]
    have e : q.num = (q.num.natAbs : Int) := by omega
    generalize q.num.natAbs = a at *
    rw [e]; rfl
theorem floor_den (q : Rat) : 1 = ((q.floor : Rat)).den := by rw [Rat.den_intCast]
end Go.Ear
