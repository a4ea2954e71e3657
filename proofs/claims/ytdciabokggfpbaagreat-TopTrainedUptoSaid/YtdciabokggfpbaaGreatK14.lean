/- K14: a part of the proof about training through the decoder: how the program's functions run, and what they compute, for every input. -/
import Derived.Test.YtdciabokggfpbaaGreatK13
import Derived.Test.YtdciabokggfpbaaGreatK4
import Derived.Test.YtdciabokggfpbaaGreatK12
set_option linter.all false
namespace Go.Ear
theorem sz_one : sz 1 = 1 := by unfold sz; rw [digs_pos (by decide)]; simp [B32,digs_zero]
theorem sz_pow (a m : Nat) : sz (a ^ m) <= m * sz a + 1 := by
 induction m with
 | zero => simp [sz_one]
 | succ m ih =>
   have h1 := lt_sz a
   have h2 : a ^ (m + 1) <= (B32 ^ sz a) ^ (m + 1) := Nat.pow_le_pow_left (Nat.le_of_lt h1) _
   refine sz_le ?_
   refine Nat.lt_of_le_of_lt h2 ?_
   rw [<- Nat.pow_mul,Nat.mul_comm]
   exact Nat.pow_lt_pow_right (by decide) (by omega)
theorem sz_shift {a s : Nat} (h : s <= 32) : sz (a * 2 ^ s) <= sz a + 2 := by
 refine Nat.le_trans (sz_mul _ _) (Nat.add_le_add_left (sz_small (Nat.lt_of_le_of_lt (Nat.pow_le_pow_right (by decide) h) (by decide))) _)
theorem sz_shifted {a k : Nat} : sz (a * B32 ^ k) <= sz a + (k + 1) := by
 refine Nat.le_trans (sz_mul _ _) (Nat.add_le_add_left (sz_le (Nat.pow_lt_pow_right (by decide) (by omega))) _)
theorem digs_one {b : Nat} (h : (digs b).length = 1) : (digs b).getD 0 0 = b := by
 have := lt_sz b
 unfold sz at this
 rw [h,Nat.pow_one] at this
 rw [getD_digs,Nat.pow_zero,Nat.div_one,Nat.mod_eq_of_lt this]
theorem top_lt {x y : Nat} (hx : x < 4294967296) (hy : y < 4294967296) : x * 2 ^ 32 ||| y < 18446744073709551616 := by
 rw [or_shift _ _ hy]; have : (2 : Nat) ^ 32 = 4294967296 := rfl; omega
theorem div_lt0 {u v : Nat} (hv : v ≠ 0) (hle : sz v <= sz u) : u < v * B32 ^ (sz u - sz v + 1) := by
 refine Nat.lt_of_lt_of_le (lt_sz u) ?_
 have h1 := pow_sz_le hv
 have h2 := sz_pos hv
 calc B32 ^ sz u = B32 ^ (sz v - 1) * B32 ^ (sz u - sz v + 1) := by rw [<- Nat.pow_add]; congr 1; omega
  _ <= _ := Nat.mul_le_mul_right _ h1
theorem top_digit {v : Nat} (hv : v ≠ 0) : (digs v).getD (sz v - 1) 0 = v / B32 ^ (sz v - 1) := by
 rw [getD_digs,Nat.mod_eq_of_lt]
 refine Nat.div_lt_of_lt_mul ?_
 have := sz_pos hv
 rw [<- Nat.pow_succ,show (sz v - 1).succ = sz v by omega]; exact lt_sz v
theorem div_guess {r v j : Nat} (hv : v ≠ 0) (hlt : r < v * B32 ^ (j + 1)) :
 r < (min (((digs r).getD (j + sz v) 0 * 2 ^ 32 ||| (digs r).getD (j + sz v - 1) 0) / (digs v).getD (sz v - 1) 0) 4294967295 + 1) * (v * B32 ^ j) := by
 have hp := sz_pos hv
 rw [or_shift _ _ (Fit.getD (digs_fit r) _),top_digit hv]
 have e32 : (2 : Nat) ^ 32 = B32 := rfl
 have etop : (digs r).getD (j + sz v) 0 * 2 ^ 32 + (digs r).getD (j + sz v - 1) 0 = r / B32 ^ (j + sz v - 1) := by
  rw [e32]
  have h := two_digs r (j + sz v - 1)
  rw [show j + sz v - 1 + 1 = j + sz v by omega,Nat.mod_eq_of_lt] at h
  · have : (4294967296 : Nat) = B32 := rfl
    rw [this] at h; omega
  · refine Nat.div_lt_of_lt_mul ?_
    refine Nat.lt_of_lt_of_le hlt ?_
    calc v * B32 ^ (j + 1) <= B32 ^ sz v * B32 ^ (j + 1) := Nat.mul_le_mul_right _ (Nat.le_of_lt (lt_sz v))
     _ = B32 ^ (j + sz v - 1) * (B32 * B32) := by rw [<- Nat.pow_add, <- Nat.mul_assoc, <- Nat.pow_succ, <- Nat.pow_succ]; congr 1; omega
 rw [etop]
 have htop : 0 < v / B32 ^ (sz v - 1) := Nat.div_pos (pow_sz_le hv) (Nat.pow_pos B32_pos)
 by_cases h : r / B32 ^ (j + sz v - 1) / (v / B32 ^ (sz v - 1)) <= 4294967295
 · rw [Nat.min_eq_left h]
   have h1 := Nat.lt_mul_div_succ (r / B32 ^ (j + sz v - 1)) htop
   generalize r / B32 ^ (j + sz v - 1) / (v / B32 ^ (sz v - 1)) = g at h1 h ⊢
   have h2 := Nat.lt_mul_div_succ r (Nat.pow_pos B32_pos : 0 < B32 ^ (j + sz v - 1))
   refine Nat.lt_of_lt_of_le h2 ?_
   have h3 : r / B32 ^ (j + sz v - 1) + 1 <= (g + 1) * (v / B32 ^ (sz v - 1)) := by rw [Nat.mul_comm]; exact h1
   calc B32 ^ (j + sz v - 1) * (r / B32 ^ (j + sz v - 1) + 1) <= B32 ^ (j + sz v - 1) * ((g + 1) * (v / B32 ^ (sz v - 1))) := Nat.mul_le_mul_left _ h3
    _ = (g + 1) * ((B32 ^ (sz v - 1) * (v / B32 ^ (sz v - 1))) * B32 ^ j) := by
        rw [show j + sz v - 1 = (sz v - 1) + j by omega,Nat.pow_add]; grind
    _ <= _ := Nat.mul_le_mul_left _ (Nat.mul_le_mul_right _ (Nat.mul_div_le ..))
 · rw [Nat.min_eq_right (by omega)]
   have : (4294967295 + 1 : Nat) = B32 := rfl
   rw [this,Nat.mul_left_comm,Nat.mul_comm B32, <- Nat.pow_succ]; exact hlt
theorem div_set {q : List Nat} {u v r j g : Nat} (hj : j < q.length) (hz : q.getD j 0 = 0) (hu : u = val q * v + r) (hle : v * g * B32 ^ j <= r) :
 u = val (q.set j g) * v + (r - v * g * B32 ^ j) := by
 have h := val_set q j g hj
 rw [hz] at h
 have : val (q.set j g) * v = val q * v + v * g * B32 ^ j := by rw [show val (q.set j g) = val q + g * B32 ^ j by omega,Nat.add_mul]; grind
 omega
theorem div_next {v r j g : Nat} (hlt : r < (g + 1) * (v * B32 ^ j)) (hle : v * g * B32 ^ j <= r) : r - v * g * B32 ^ j < v * B32 ^ j := by
 have : (g + 1) * (v * B32 ^ j) = v * g * B32 ^ j + v * B32 ^ j := by grind
 omega
theorem div_dec {v r j g : Nat} (hg : 0 < g) (hgt : r < v * g * B32 ^ j) : r < (g - 1 + 1) * (v * B32 ^ j) := by
 rw [show g - 1 + 1 = g by omega]
 have : g * (v * B32 ^ j) = v * g * B32 ^ j := by grind
 omega
theorem div_q {a b s q r : Nat} (_hb : b ≠ 0) (hu : a * 2 ^ s = q * (b * 2 ^ s) + r) (hr : r < b * 2 ^ s) : q = a / b /\ r / 2 ^ s = a % b := by
 have hs : 0 < 2 ^ s := Nat.pow_pos (by decide)
 have h1 : a * 2 ^ s / (b * 2 ^ s) = q := by
  rw [hu,Nat.add_comm,Nat.add_mul_div_right _ _ (by omega),Nat.div_eq_of_lt hr,Nat.zero_add]
 have h2 : a * 2 ^ s % (b * 2 ^ s) = r := by
  rw [hu,Nat.add_comm,Nat.add_mul_mod_self_right,Nat.mod_eq_of_lt hr]
 rw [Nat.mul_div_mul_right _ _ hs] at h1
 rw [Nat.mul_mod_mul_right] at h2
 exact ⟨h1.symm,by rw [<- h2,Nat.mul_div_cancel _ hs]⟩
end Go.Ear
namespace Go.Ear
structure Fr where
 neg : Bool
 n : List Nat
 d : List Nat
def F (h : PH) (v : Value) (f : Fr) : Prop := ∃ x y,v = .agg #[.bool f.neg,x,y] /\ U h x f.n /\ U h y f.d
def frK (q : Rat) : Fr := ⟨decide (q.num < 0),digs q.num.natAbs,if q.den = 1 then [] else digs q.den⟩
def ratOf (s : Bool) (n d : Nat) : Rat := mkRat (if s then -(n : Int) else n) d
def Fr.rat (f : Fr) : Rat := ratOf f.neg (val f.n) (if val f.d = 0 then 1 else val f.d)
theorem ratOf_eq {s : Bool} {n d : Nat} (hd : d ≠ 0) : (ratOf s n d).num = (if s then -(n : Int) else n) / (Nat.gcd n d : Nat) /\ (ratOf s n d).den = d / Nat.gcd n d := by
 unfold ratOf
 rw [<- Rat.normalize_eq_mkRat hd,Rat.normalize_eq]
 have e : (if s then -(n : Int) else (n : Int)).natAbs = n := by cases s <;> simp
 simp only [e,and_self]
theorem gcd_pos' {n d : Nat} (hd : d ≠ 0) : 0 < Nat.gcd n d := Nat.gcd_pos_of_pos_right _ (Nat.pos_of_ne_zero hd)
theorem ratOf_den {s : Bool} {n d : Nat} (hd : d ≠ 0) : d / Nat.gcd n d = (ratOf s n d).den := (ratOf_eq hd).2.symm
theorem ratOf_abs {s : Bool} {n d : Nat} (hd : d ≠ 0) : n / Nat.gcd n d = (ratOf s n d).num.natAbs := by
 rw [(ratOf_eq hd).1]
 obtain ⟨k,hk⟩ := Nat.gcd_dvd_left n d
 have hp := gcd_pos' (n := n) hd
 generalize Nat.gcd n d = g at *
 subst hk
 rw [Nat.mul_div_cancel_left _ hp]
 cases s
 · simp only [Bool.false_eq_true,if_false]
   rw [Int.natCast_mul,Int.mul_ediv_cancel_left _ (by omega)]; simp
 · simp only [if_true]
   rw [Int.natCast_mul, <- Int.mul_neg,Int.mul_ediv_cancel_left _ (by omega)]; simp
theorem ratOf_neg {s : Bool} {n d : Nat} (hd : d ≠ 0) : (s && decide (0 < n / Nat.gcd n d)) = decide ((ratOf s n d).num < 0) := by
 rw [(ratOf_eq hd).1]
 obtain ⟨k,hk⟩ := Nat.gcd_dvd_left n d
 have hp := gcd_pos' (n := n) hd
 generalize Nat.gcd n d = g at *
 subst hk
 rw [Nat.mul_div_cancel_left _ hp]
 cases s
 · simp only [Bool.false_and,Bool.false_eq_true,if_false]
   rw [Int.natCast_mul,Int.mul_ediv_cancel_left _ (by omega)]; simp
 · simp only [Bool.true_and,if_true]
   rw [Int.natCast_mul, <- Int.mul_neg,Int.mul_ediv_cancel_left _ (by omega)]
   congr 1; apply propext; omega
theorem ratOf_self (q : Rat) : ratOf (decide (q.num < 0)) q.num.natAbs q.den = q := by
 unfold ratOf
 have : (if decide (q.num < 0) = true then -((q.num.natAbs : Nat) : Int) else (q.num.natAbs : Int)) = q.num := by
  by_cases h : q.num < 0
  · rw [if_pos (by simpa using h)]; omega
  · rw [if_neg (by simpa using h)]; omega
 rw [this,Rat.mkRat_self]
theorem frK_rat (q : Rat) : (frK q).rat = q := by
 unfold Fr.rat frK
 simp only [val_digs]
 by_cases h : q.den = 1
 · have e := ratOf_self q
   rw [h] at e
   simp only [h,if_true,val]; exact e
 · simp only [if_neg h,val_digs,q.den_nz,if_false]; exact ratOf_self q
def bq (q : Rat) : Nat := max (sz q.num.natAbs) (sz q.den)
theorem bq_num (q : Rat) : sz q.num.natAbs <= bq q := Nat.le_max_left ..
theorem bq_den (q : Rat) : sz q.den <= bq q := Nat.le_max_right ..
theorem bq_ratOf {s : Bool} {n d B : Nat} (hd : d ≠ 0) (h1 : sz n <= B) (h2 : sz d <= B) : bq (ratOf s n d) <= B := by
 unfold bq
 rw [<- ratOf_abs hd, <- ratOf_den hd]
 exact Nat.max_le.2 ⟨Nat.le_trans (sz_mono (Nat.div_le_self ..)) h1,Nat.le_trans (sz_mono (Nat.div_le_self ..)) h2⟩
theorem digs_len_pos (n : Nat) : decide (0 < (digs n).length) = decide (0 < n) := by
 congr 1; apply propext
 have := sz_eq_zero (n := n)
 unfold sz at this; omega
theorem len_zero {n : Nat} : (digs n).length = 0 ↔ n = 0 := sz_eq_zero
theorem Fr.rat_z {f : Fr} (h : (digs (val f.d)).length = 0) : ratOf f.neg (val f.n) 1 = f.rat := by unfold Fr.rat; rw [if_pos (len_zero.1 h)]
theorem Fr.rat_nz {f : Fr} (h : ¬ (digs (val f.d)).length = 0) : ratOf f.neg (val f.n) (val f.d) = f.rat := by unfold Fr.rat; rw [if_neg (fun e => h (len_zero.2 e))]
theorem ratOf_zero {s : Bool} {d : Nat} : ratOf s 0 d = 0 := by unfold ratOf; cases s <;> simp
theorem num_zero {q : Rat} : (digs q.num.natAbs).length = 0 ↔ q = 0 := by rw [len_zero,Int.natAbs_eq_zero,Rat.num_eq_zero]
theorem neg_mk {q : Rat} : ((!decide (q.num < 0)) && decide (0 < (digs q.num.natAbs).length)) = decide ((-q).num < 0) := by
 rw [digs_len_pos,Rat.neg_num,Bool.eq_iff_iff]
 simp only [Bool.and_eq_true,Bool.not_eq_true',decide_eq_true_eq,decide_eq_false_iff_not]; omega
theorem neg_abs {q : Rat} : q.num.natAbs = (-q).num.natAbs := by rw [Rat.neg_num]; omega
def sgn (s : Bool) (n : Nat) : Int := if s then -(n : Int) else n
theorem sgn_num (q : Rat) : sgn (decide (q.num < 0)) q.num.natAbs = q.num := by
 unfold sgn
 by_cases h : q.num < 0
 · rw [if_pos (by simpa using h)]; omega
 · rw [if_neg (by simpa using h)]; omega
theorem mul_mk {a b : Rat} : ratOf (decide (a.num < 0) != decide (b.num < 0)) (a.num.natAbs * b.num.natAbs) (a.den * b.den) = a * b := by
 unfold ratOf
 rw [Rat.mul_def,Rat.normalize_eq_mkRat (Nat.mul_ne_zero a.den_nz b.den_nz)]
 congr 1
 have ea := sgn_num a
 have eb := sgn_num b
 rw [Int.natCast_mul]
 by_cases h1 : a.num < 0 <;> by_cases h2 : b.num < 0
 all_goals
  simp only [h1,h2,decide_true,decide_false,sgn,Bool.false_eq_true,if_false,if_true,bne_self_eq_false,Bool.true_bne,Bool.false_bne,Bool.not_false,Bool.not_true] at ea eb ⊢
  rw [<- ea, <- eb]; grind
theorem add_def' (a b : Rat) : mkRat (a.num * b.den + b.num * a.den) (a.den * b.den) = a + b := by
 rw [Rat.add_def,Rat.normalize_eq_mkRat (Nat.mul_ne_zero a.den_nz b.den_nz)]
theorem add_same {a b : Rat} (h : decide (a.num < 0) = decide (b.num < 0)) : ratOf (decide (a.num < 0)) (a.num.natAbs * b.den + b.num.natAbs * a.den) (a.den * b.den) = a + b := by
 rw [<- add_def']
 unfold ratOf
 congr 1
 have ea := sgn_num a
 have eb := sgn_num b
 rw [Int.natCast_add,Int.natCast_mul,Int.natCast_mul]
 by_cases h1 : a.num < 0 <;> by_cases h2 : b.num < 0
 · simp only [h1,h2,decide_true,decide_false,sgn,Bool.false_eq_true,if_false,if_true] at ea eb ⊢; rw [<- ea, <- eb]; grind
 · exact absurd h (by simp [h1,h2])
 · exact absurd h (by simp [h1,h2])
 · simp only [h1,h2,decide_true,decide_false,sgn,Bool.false_eq_true,if_false,if_true] at ea eb ⊢; rw [<- ea, <- eb]; grind
theorem add_lt {a b : Rat} (h : ¬ decide (a.num < 0) = decide (b.num < 0)) (hl : a.num.natAbs * b.den <= b.num.natAbs * a.den) : ratOf (decide (b.num < 0)) (b.num.natAbs * a.den - a.num.natAbs * b.den) (a.den * b.den) = a + b := by
 rw [<- add_def']
 unfold ratOf
 congr 1
 have ea := sgn_num a
 have eb := sgn_num b
 have e3 : ((b.num.natAbs * a.den - a.num.natAbs * b.den : Nat) : Int) = (b.num.natAbs : Int) * a.den - a.num.natAbs * b.den := by omega
 rw [e3]
 by_cases h1 : a.num < 0 <;> by_cases h2 : b.num < 0
 · exact absurd (by simp [h1,h2]) h
 · simp only [h1,h2,decide_true,decide_false,sgn,Bool.false_eq_true,if_false,if_true] at ea eb ⊢; rw [<- ea, <- eb]; grind
 · simp only [h1,h2,decide_true,decide_false,sgn,Bool.false_eq_true,if_false,if_true] at ea eb ⊢; rw [<- ea, <- eb]; grind
 · exact absurd (by simp [h1,h2]) h
theorem add_ge {a b : Rat} (h : ¬ decide (a.num < 0) = decide (b.num < 0)) (hl : b.num.natAbs * a.den <= a.num.natAbs * b.den) : ratOf (decide (a.num < 0)) (a.num.natAbs * b.den - b.num.natAbs * a.den) (a.den * b.den) = a + b := by
 rw [Rat.add_comm,Nat.mul_comm a.den]
 exact add_lt (fun e => h e.symm) hl
theorem inv_abs {q : Rat} (h : q ≠ 0) : q.den = (q⁻¹).num.natAbs := by
 rw [Rat.num_inv,Int.natAbs_mul,Int.natAbs_sign_of_ne_zero (fun e => h (Rat.num_eq_zero.1 e))]; simp
theorem inv_den {q : Rat} (h : q ≠ 0) : q.num.natAbs = (q⁻¹).den := by
 rw [Rat.den_inv,if_neg (fun e => h (Rat.num_eq_zero.1 e))]
theorem inv_sign {q : Rat} : decide (q.num < 0) = decide ((q⁻¹).num < 0) := by
 congr 1; apply propext
 rw [Rat.num_inv]
 have hd : (0 : Int) < q.den := by have := q.den_pos; omega
 rcases Int.lt_trichotomy q.num 0 with h | h | h
 · rw [Int.sign_eq_neg_one_of_neg h]; omega
 · rw [h]; simp
 · rw [Int.sign_eq_one_of_pos h]; omega
def sgQ (q : Rat) : Int := if q = 0 then 0 else if q.num < 0 then -1 else 1
theorem sz_le_add {a b c : Nat} (h : a <= b) (h2 : sz b <= c) : sz a <= c := Nat.le_trans (sz_mono h) h2
theorem mkRat_ratOf (z : Int) (d : Nat) : mkRat z d = ratOf (decide (z < 0)) z.natAbs d := by
 unfold ratOf; congr 1
 by_cases h : z < 0
 · rw [if_pos (by simpa using h)]; omega
 · rw [if_neg (by simpa using h)]; omega
theorem bq_mkRat {z : Int} {d n B : Nat} (hd : d ≠ 0) (h : z.natAbs <= n) (h1 : sz n <= B) (h2 : sz d <= B) : bq (mkRat z d) <= B := by
 rw [mkRat_ratOf]; exact bq_ratOf hd (sz_le_add h h1) h2
theorem sz_mul' {a b A B : Nat} (h1 : sz a <= A) (h2 : sz b <= B) : sz (a * b) <= A + B := Nat.le_trans (sz_mul ..) (Nat.add_le_add h1 h2)
theorem bq_add (a b : Rat) : bq (a + b) <= bq a + bq b + 1 := by
 rw [<- add_def']
 refine bq_mkRat (n := a.num.natAbs * b.den + b.num.natAbs * a.den) (Nat.mul_ne_zero a.den_nz b.den_nz) ?_ ?_ ?_
 · refine Nat.le_trans (Int.natAbs_add_le _ _) ?_
   rw [Int.natAbs_mul,Int.natAbs_mul]; simp
 · refine Nat.le_trans (sz_add _ _) (Nat.add_le_add_right (Nat.max_le.2 ⟨sz_mul' (bq_num _) (bq_den _), ?_⟩) _)
   rw [Nat.add_comm]; exact sz_mul' (bq_num _) (bq_den _)
 · exact Nat.le_succ_of_le (sz_mul' (bq_den _) (bq_den _))
theorem bq_mul (a b : Rat) : bq (a * b) <= bq a + bq b := by
 rw [<- mul_mk]
 exact bq_ratOf (Nat.mul_ne_zero a.den_nz b.den_nz) (sz_mul' (bq_num _) (bq_num _)) (sz_mul' (bq_den _) (bq_den _))
theorem bq_neg (a : Rat) : bq (-a) = bq a := by unfold bq; rw [<- neg_abs,Rat.neg_den]
theorem bq_inv {a : Rat} (h : a ≠ 0) : bq a⁻¹ = bq a := by unfold bq; rw [<- inv_abs h, <- inv_den h,Nat.max_comm]
theorem bq_rat {f : Fr} (ff : Fit f.n /\ Fit f.d) : bq f.rat <= max (max f.n.length f.d.length) 1 := by
 unfold Fr.rat
 refine bq_ratOf (by split <;> omega) (Nat.le_trans (sz_len ff.1) (by omega)) ?_
 split
 · rw [sz_one]; omega
 · exact Nat.le_trans (sz_len ff.2) (by omega)
theorem bq_int (n : Int) (h : n.natAbs < 18446744073709551616) : bq (n : Rat) <= 2 := by
 unfold bq
 rw [Rat.num_intCast,Rat.den_intCast,sz_one]
 exact Nat.max_le.2 ⟨sz_small h,by omega⟩
theorem bq_K (q : Rat) : (frK q).n.length <= bq q /\ (frK q).d.length <= bq q := by
 refine ⟨bq_num q, ?_⟩
 unfold frK
 simp only
 split
 · simp
 · exact bq_den q
theorem floor_neg {q : Rat} (hn : q.num < 0) (hr : 0 < q.num.natAbs % q.den) : ((q.floor : Rat)).num = -((q.num.natAbs / q.den + 1 : Nat) : Int) := by
 rw [Rat.num_intCast,Rat.floor_def]
 have hd := q.den_pos
 have h1 := Nat.div_add_mod q.num.natAbs q.den
 have e : q.num = -(q.num.natAbs : Int) := by omega
 generalize q.num.natAbs = a at *
 generalize q.den = d at *
 rw [e]
 have hlt := Nat.mod_lt a hd
 generalize a / d = k at *
 generalize a % d = r at *
 have : -(a : Int) = ((d - r : Nat) : Int) + (d : Int) * (-(k + 1 : Nat) : Int) := by
  rw [<- h1]; push_cast [Nat.le_of_lt hlt]; grind
 rw [this,Int.add_mul_ediv_left _ _ (by omega),Int.ediv_eq_zero_of_lt (by omega) (by omega)]; simp
theorem floor_pos {q : Rat} (h : ¬ (q.num < 0 /\ 0 < q.num.natAbs % q.den)) : ((q.floor : Rat)).num = sgn (decide (q.num < 0)) (q.num.natAbs / q.den) := by
 rw [Rat.num_intCast,Rat.floor_def]
 have hd := q.den_pos
 have h1 := Nat.div_add_mod q.num.natAbs q.den
 unfold sgn
 by_cases hn : q.num < 0
 · rw [if_pos (by simpa using hn)]
   have hr : q.num.natAbs % q.den = 0 := by omega
   have e : q.num = -(q.num.natAbs : Int) := by omega
   rw [hr] at h1
   generalize q.num.natAbs = a at *
   rw [e, <- h1,Nat.add_zero,Nat.mul_div_cancel_left _ hd,Int.natCast_mul, <- Int.mul_neg,Int.mul_ediv_cancel_left _ (by omega)]
 · rw [if_neg (by simpa using hn)]
   have e : q.num = (q.num.natAbs : Int) := by omega
   generalize q.num.natAbs = a at *
   rw [e]; rfl
theorem floor_den (q : Rat) : 1 = ((q.floor : Rat)).den := by rw [Rat.den_intCast]
end Go.Ear
namespace Go.Ear
def fr0 : Fr := ⟨false,[],[]⟩
theorem floor_fin {q : Rat} {b : Bool} {m : Nat} (h : (q.num < 0 /\ 0 < q.num.natAbs % q.den /\ m = q.num.natAbs / q.den + 1) \/ (¬ (q.num < 0 /\ 0 < q.num.natAbs % q.den) /\ m = q.num.natAbs / q.den))
 (hb : b = (decide (q.num < 0) && decide (0 < m))) : b = decide ((q.floor : Rat).num < 0) /\ m = (q.floor : Rat).num.natAbs := by
 rcases h with ⟨h1,h2,rfl⟩ | ⟨h1,rfl⟩
 · rw [floor_neg h1 h2]
   generalize q.num.natAbs / q.den = m at *
   refine ⟨?_,by omega⟩
   rw [hb,Bool.eq_iff_iff]
   simp only [Bool.and_eq_true,decide_eq_true_eq]
   omega
 · rw [floor_pos h1]
   generalize q.num.natAbs / q.den = m at *
   unfold sgn
   subst hb
   by_cases hn : q.num < 0
   · simp only [hn,decide_true,if_true,Bool.true_and]
     refine ⟨?_,by omega⟩
     rw [Bool.eq_iff_iff,decide_eq_true_eq,decide_eq_true_eq]; omega
   · simp only [hn,decide_false,Bool.false_eq_true,if_false,Bool.false_and]
     refine ⟨?_,by omega⟩
     rw [eq_comm,decide_eq_false_iff_not]; omega
theorem len_pos {n : Nat} : 0 < (digs n).length ↔ 0 < n := by
 have := sz_eq_zero (n := n)
 unfold sz at this; omega
theorem frK_zero : frK 0 = fr0 := by unfold frK fr0; simp [digs_zero]
end Go.Ear
namespace Go.Ear
theorem cmpN_one {d : Nat} : cmpN d 1 = 0 ↔ d = 1 := by
 have h1 := cmpN_neg (a := d) (b := 1)
 have h2 := cmpN_pos (a := d) (b := 1)
 constructor
 · intro h; omega
 · rintro rfl; exact cmpN_eq 1
end Go.Ear
namespace Go.Ear
end Go.Ear
namespace Go.Ear
def bf (f : Fr) : Nat := max (max f.n.length f.d.length) 1
theorem bf_n (f : Fr) : f.n.length <= bf f := by unfold bf; omega
theorem bf_d (f : Fr) : f.d.length <= bf f := by unfold bf; omega
theorem bf_pos (f : Fr) : 1 <= bf f := by unfold bf; omega
theorem bf_le {f : Fr} {k : Nat} (h1 : f.n.length <= k) (h2 : f.d.length <= k) (h3 : 1 <= k) : bf f <= k := by unfold bf; omega
theorem bq_pos (q : Rat) : 1 <= bq q := Nat.le_trans (sz_pos q.den_nz) (bq_den q)
theorem bf_frK (q : Rat) : bf (frK q) = bq q := by
 have hp := bq_pos q
 have h1 := bq_K q
 apply Nat.le_antisymm
 · unfold bf; omega
 · unfold Go.Ear.bq
   have hd : sz q.den <= max (frK q).d.length 1 := by
    unfold frK
    simp only
    by_cases e : q.den = 1
    · rw [if_pos e,e,sz_one]; omega
    · rw [if_neg e]; unfold sz; omega
   have hn : sz q.num.natAbs = (frK q).n.length := rfl
   unfold bf; omega
theorem bq_zero : bq 0 = 1 := by
 unfold bq
 rw [show (0 : Rat).num.natAbs = 0 from rfl,show (0 : Rat).den = 1 from rfl,sz_one,sz_eq_zero.2 rfl]; rfl
def wts (l : List Fr) : Nat := (l.map fun f => bf f + 1).sum
theorem wts_nil : wts [] = 0 := rfl
theorem wts_cons (f : Fr) (l : List Fr) : wts (f :: l) = bf f + 1 + wts l := rfl
theorem len_wts : ∀ (l : List Fr),l.length <= wts l
 | [] => Nat.le_refl _
 | f :: l => by rw [wts_cons]; have := len_wts l; simp; omega
theorem wts_take : ∀ (l : List Fr) (k : Nat),wts (l.take k) <= wts l
 | [],k => by simp [wts]
 | f :: l,0 => by simp [wts]
 | f :: l,k + 1 => by rw [List.take_succ_cons,wts_cons,wts_cons]; have := wts_take l k; omega
theorem bf_mem : ∀ {l : List Fr} {f : Fr},f ∈ l -> bf f + 1 <= wts l
 | g :: l,f,h => by
   rw [wts_cons]
   rcases List.mem_cons.1 h with rfl | h
   · omega
   · have := bf_mem h; omega
theorem bf_getD (l : List Fr) (k : Nat) : bf (l.getD k fr0) <= wts l + 1 := by
 rw [List.getD_eq_getElem?_getD]
 cases h : l[k]? with
 | none => simp [bf,fr0]
 | some x => have := bf_mem (List.mem_of_getElem? h); simp; omega
theorem fr0_rat : fr0.rat = 0 := by have := frK_rat 0; rwa [frK_zero] at this
def foldA (q : Rat) (l : List Fr) : Rat := l.foldl (fun s f => s + f.rat) q
def foldM (q : Rat) (l : List Fr) : Rat := l.foldl (fun s f => s * f.rat) q
def sumF (l : List Fr) : Rat := foldA 0 l
def prodF (l : List Fr) : Rat := foldM 1 l
theorem take_snoc {α : Type} {l : List α} {k : Nat} (d : α) (hk : k < l.length) : l.take (k + 1) = l.take k ++ [l.getD k d] := by
 rw [List.take_succ_eq_append_getElem hk,List.getD_eq_getElem?_getD,List.getElem?_eq_getElem hk]; rfl
theorem foldA_succ {q : Rat} {l : List Fr} {k : Nat} (hk : k < l.length) : foldA q (l.take (k + 1)) = foldA q (l.take k) + (l.getD k fr0).rat := by
 rw [take_snoc fr0 hk]; unfold foldA; rw [List.foldl_append]; rfl
theorem foldM_succ {q : Rat} {l : List Fr} {k : Nat} (hk : k < l.length) : foldM q (l.take (k + 1)) = foldM q (l.take k) * (l.getD k fr0).rat := by
 rw [take_snoc fr0 hk]; unfold foldM; rw [List.foldl_append]; rfl
theorem bq_foldA : ∀ (l : List Fr) (q : Rat),(∀ x ∈ l,bq x.rat <= bf x) -> bq (foldA q l) <= bq q + wts l
 | [],q,_ => Nat.le_refl _
 | f :: l,q,h => by
   have h1 := bq_foldA l (q + f.rat) (fun x hx => h x (List.mem_cons_of_mem _ hx))
   have h2 := bq_add q f.rat
   have h3 := h f (List.mem_cons_self ..)
   rw [wts_cons]
   show bq (foldA (q + f.rat) l) <= _
   omega
theorem bq_foldM : ∀ (l : List Fr) (q : Rat),(∀ x ∈ l,bq x.rat <= bf x) -> bq (foldM q l) <= bq q + wts l
 | [],q,_ => Nat.le_refl _
 | f :: l,q,h => by
   have h1 := bq_foldM l (q * f.rat) (fun x hx => h x (List.mem_cons_of_mem _ hx))
   have h2 := bq_mul q f.rat
   have h3 := h f (List.mem_cons_self ..)
   rw [wts_cons]
   show bq (foldM (q * f.rat) l) <= _
   omega
theorem sumF2 (a b : Fr) : sumF [a,b] = a.rat + b.rat := by show 0 + a.rat + b.rat = _; rw [Rat.zero_add]
theorem prodF2 (a b : Fr) : prodF [a,b] = a.rat * b.rat := by show 1 * a.rat * b.rat = _; rw [Rat.one_mul]
theorem wts2 (a b : Fr) : wts [a,b] = bf a + bf b + 2 := by rw [wts_cons,wts_cons,wts_nil]; omega
theorem bq_sub (a b : Rat) : bq (a - b) <= bq a + bq b + 1 := by
 rw [Rat.sub_eq_add_neg]
 have := bq_add a (-b)
 rwa [bq_neg] at this
theorem bq_inv' (a : Rat) : bq a⁻¹ <= bq a := by
 by_cases h : a = 0
 · subst h; rw [Rat.inv_zero]; exact Nat.le_refl _
 · rw [bq_inv h]; exact Nat.le_refl _
theorem bq_div (a b : Rat) : bq (a / b) <= bq a + bq b := by
 rw [Rat.div_def]
 exact Nat.le_trans (bq_mul _ _) (Nat.add_le_add_left (bq_inv' b) _)
theorem bq_intc {n : Int} (h1 : -9223372036854775808 <= n) (h2 : n <= 9223372036854775807) : bq (n : Rat) <= 2 := bq_int n (by omega)
theorem bq_floor (q : Rat) : bq (q.floor : Rat) <= bq q + 1 := by
 unfold bq
 rw [Rat.num_intCast,Rat.den_intCast,sz_one]
 have h1 : sz q.floor.natAbs <= sz q.num.natAbs + 1 := by
  have hf : q.floor.natAbs <= q.num.natAbs + 1 := by
   by_cases hc : q.num < 0 /\ 0 < q.num.natAbs % q.den
   · have := floor_neg hc.1 hc.2
     rw [Rat.num_intCast] at this
     have h2 := Nat.div_le_self q.num.natAbs q.den
     generalize q.num.natAbs / q.den = m at *
     omega
   · have := floor_pos hc
     rw [Rat.num_intCast] at this
     have h2 := Nat.div_le_self q.num.natAbs q.den
     unfold sgn at this
     generalize q.num.natAbs / q.den = m at *
     split at this <;> omega
  refine Nat.le_trans (sz_mono hf) ?_
  have := sz_add q.num.natAbs 1
  rw [sz_one] at this
  have h3 : sz q.num.natAbs = 0 \/ 1 <= sz q.num.natAbs := by omega
  rcases h3 with h3 | h3
  · rw [sz_eq_zero] at h3; rw [h3]; show sz 1 <= _; rw [sz_one]; omega
  · omega
 omega
def errDiv (b : Rat) : Int := if b = 0 then 3 else 0
theorem div_zero' (a : Rat) : a / 0 = 0 := by rw [Rat.div_def,Rat.inv_zero,Rat.mul_zero]
def floorQ (q : Rat) (d : Int) : Rat := if d < 1 then 0 else ((q * (d : Rat)).floor : Rat) * (d : Rat)⁻¹
end Go.Ear
namespace Go.Ear
theorem bitlen_sz (n : Nat) : bitlen n <= 32 * sz n := by
 by_cases h : n = 0
 · subst h; rw [bitlen_zero]; omega
 · have h1 : (digs n).length ≠ 0 := fun e => h (len_zero.1 e)
   rw [bitlen_digs h1]
   have h2 := Fit.getD (digs_fit n) ((digs n).length - 1)
   have h3 := bitlen_lt (s := 32) h2
   unfold sz; omega
end Go.Ear
namespace Go.E3
open Go Go.Ear
def rU : Rp Nat := mkRp 1 (fun x => [.cv (.int .u32 (x : Int))]) (fun _ => rfl) (fun _ => rfl)
instance : RpC rU (fun x => [.cv (.int .u32 (x : Int))]) := ⟨Iff.rfl⟩
instance : Rk rU 1 := ⟨rfl⟩
def rI : Rp Int := mkRp 1 (fun x => [.cv (.int .i64 x)]) (fun _ => rfl) (fun _ => rfl)
instance : RpC rI (fun x => [.cv (.int .i64 x)]) := ⟨Iff.rfl⟩
instance : Rk rI 1 := ⟨rfl⟩
def rL {α : Type} (r : Rp α) : Rp (List α) := mkRp 1 (fun x => [lv r x]) (fun _ => rfl) (fun _ => rfl)
instance {α : Type} {r : Rp α} : RpC (rL r) (fun x => [lv r x]) := ⟨Iff.rfl⟩
instance {α : Type} {r : Rp α} : Rk (rL r) 1 := ⟨rfl⟩
@[reducible] def uv (l : List Nat) : SV := lv rU l
@[reducible] def fv (f : Fr) : SV := .ag [.cv (.bool f.neg),lv rU f.n,lv rU f.d]
def rF : Rp Fr := mkRp 3 (fun f => [.cv (.bool f.neg),lv rU f.n,lv rU f.d]) (fun _ => rfl) (fun _ => rfl)
instance : RpC rF (fun f => [.cv (.bool f.neg),lv rU f.n,lv rU f.d]) := ⟨Iff.rfl⟩
instance : Rk rF 3 := ⟨rfl⟩
instance : D0 Fr fr0 := ⟨trivial⟩
class Vw {α : Type} (v : α -> SV) (S : SV) (x : outParam α) : Prop where h : ∀ {h u},den h S u -> den h (v x) u
instance {α : Type} {r : Rp α} {l : List α} : Vw (lv r) (lv r l) l := ⟨fun u => u⟩
theorem nil_lv {α : Type} {r : Rp α} {b : Option Addr} {c : Nat} {h : PH} {v : Value} (u : den h (.cv (.slice b 0 c)) v) : den h (lv r []) v := by rw [u]; exact LR.nil r h b c
instance {α : Type} {r : Rp α} {b : Option Addr} {c : Nat} : Vw (lv r) (.cv (.slice b 0 c)) [] := ⟨nil_lv⟩
@[reducible] def iv (i : Int) : SV := .cv (.int .i64 i)
@[reducible] def bv (b : Bool) : SV := .cv (.bool b)
instance (priority := high) {f : Fr} : Vw fv (.ag [.cv (.bool f.neg),lv rU f.n,lv rU f.d]) f := ⟨fun u => u⟩
theorem Ct.az {P : Program} {f : FuncId} {az bs : List SV} {sd : Prop} {S : SV} (c : Ct P f bs sd S) (i : ∀ {h vs},denL h az vs -> denL h bs vs) : Ct P f az sd S := ⟨c.fn,fun x _ _ _ s u => c.h x s (i u)⟩
theorem cO1 {α : Type} {v : α -> SV} {x : α} {P : Program} {f : FuncId} {sd : Prop} {S : SV} {R : Gh -> List Res} {l : List SV} (i : Vw v S x) (c : CtO P f (v x :: l) sd R) : CtO P f (S :: l) sd R := c.az fun {h vs} u => by
 match vs,u with
 | _ :: _,u => exact ⟨i.h u.1,u.2⟩
theorem ct1 {α : Type} {v : α -> SV} {x : α} {P : Program} {f : FuncId} {sd : Prop} {S R : SV} {l : List SV} (i : Vw v S x) (c : Ct P f (v x :: l) sd R) : Ct P f (S :: l) sd R := c.az fun {h vs} u => by
 match vs,u with
 | _ :: _,u => exact ⟨i.h u.1,u.2⟩
theorem ct2 {α β : Type} {v : α -> SV} {x : α} {v2 : β -> SV} {y : β} {P : Program} {f : FuncId} {sd : Prop} {S T R : SV} {l : List SV} (i : Vw v S x) (j : Vw v2 T y) (c : Ct P f (v x :: v2 y :: l) sd R) : Ct P f (S :: T :: l) sd R := c.az fun {h vs} u => by
 match vs,u with
 | _ :: _ :: _,u => exact ⟨i.h u.1,j.h u.2.1,u.2.2⟩
theorem ct3 {α β γ : Type} {v : α -> SV} {x : α} {v2 : β -> SV} {y : β} {v3 : γ -> SV} {z : γ} {P : Program} {f : FuncId} {sd : Prop} {S T U R : SV} {l : List SV} (i : Vw v S x) (j : Vw v2 T y) (k : Vw v3 U z) (c : Ct P f (v x :: v2 y :: v3 z :: l) sd R) : Ct P f (S :: T :: U :: l) sd R := c.az fun {h vs} u => by
 match vs,u with
 | _ :: _ :: _ :: _,u => exact ⟨i.h u.1,j.h u.2.1,k.h u.2.2.1,u.2.2.2⟩
@[reducible] def nv (n : Nat) : SV := lv rU (digs n)
@[reducible] def qv (q : Rat) : SV := .ag [.cv (.bool (decide (q.num < 0))),lv rU (digs q.num.natAbs),lv rU (digs q.den)]
instance {n : Nat} : Vw nv (lv rU (digs n)) n := ⟨fun u => u⟩
instance {q : Rat} : Vw qv (.ag [.cv (.bool (decide (q.num < 0))),lv rU (digs q.num.natAbs),lv rU (digs q.den)]) q := ⟨fun u => u⟩
class Sz (n : Nat) (b : outParam Nat) : Prop where h : sz n <= b
class FtL (l : List Nat) : Prop where h : Fit l
class FtF (f : Fr) : Prop where h : Fit f.n /\ Fit f.d
instance {n : Nat} : FtL (digs n) := ⟨digs_fit n⟩
instance {f : Fr} [i : FtF f] : FtL f.n := ⟨i.h.1⟩
instance {f : Fr} [i : FtF f] : FtL f.d := ⟨i.h.2⟩
theorem one_cells {S : SV} {h : PH} {v : Value} (u : den h S v) (o : S.one = true) : denL h [S] v.cells.toList := by rw [cells_one (u.one o)]; exact ⟨u,trivial⟩
instance {i : Int} {a : Nat} [x : IN i a] : Rd rU (.cv (.int .u32 i)) a := ⟨fun u => by rw [x.e] at u; exact one_cells u rfl⟩
instance {i : Int} : Rd rI (.cv (.int .i64 i)) i := ⟨fun u => one_cells u rfl⟩
instance {x : Value} : Rd rW (ov x) x := ⟨fun u => one_cells u rfl⟩
instance {α : Type} {r : Rp α} {l : List α} : Rd (rL r) (lv r l) l := ⟨fun u => one_cells u rfl⟩
instance {S : SV} {f : Fr} [i : Vw fv S f] : Rd rF S f := ⟨fun u => by
 obtain ⟨vs,e,d⟩ := i.h u
 subst e; exact d⟩
@[reducible] def kk (q : Rat) : SV := fv (frK q)
class Rt (f : Fr) (q : outParam Rat) : Prop where h : f.rat = q
class Bfe (f : Fr) (b : outParam Nat) : Prop where h : bf f = b
instance (priority := low) {f : Fr} : Rt f f.rat := ⟨rfl⟩
instance (priority := low) {f : Fr} : Bfe f (bf f) := ⟨rfl⟩
instance {q : Rat} : Rt (frK q) q := ⟨frK_rat q⟩
instance {q : Rat} : Bfe (frK q) (bq q) := ⟨bf_frK q⟩
instance {q : Rat} : FtF (frK q) := ⟨digs_fit _,by unfold frK; dsimp only; split; exact fun x hx => (List.not_mem_nil hx).elim; exact digs_fit _⟩
instance : FtF fr0 := ⟨fun x hx => (List.not_mem_nil hx).elim,fun x hx => (List.not_mem_nil hx).elim⟩
class VF (S : SV) (f : outParam Fr) (q : outParam Rat) (b : outParam Nat) : Prop where
 v : Vw fv S f
 t : FtF f
 r : f.rat = q
 b : bf f = b
instance {S : SV} {f : Fr} {q : Rat} {b : Nat} [v : Vw fv S f] [t : FtF f] [r : Rt f q] [e : Bfe f b] : VF S f q b := ⟨v,t,r.h,e.h⟩
theorem VF.le {S : SV} {f : Fr} {q : Rat} {b : Nat} (i : VF S f q b) : bq q <= b := by rw [<- i.r, <- i.b]; exact bq_rat i.t.h
class FtS (l : List Fr) : Prop where h : ∀ f ∈ l,FtF f
instance : FtS [] := ⟨fun f hf => (List.not_mem_nil hf).elim⟩
instance {f : Fr} {l : List Fr} [a : FtF f] [b : FtS l] : FtS (f :: l) := ⟨fun g hg => by rcases List.mem_cons.1 hg with rfl | hg; exact a; exact b.h g hg⟩
theorem FtS.getD {l : List Fr} (i : FtS l) (k : Nat) : FtF (l.getD k fr0) := by
 rw [List.getD_eq_getElem?_getD]
 cases e : l[k]? with
 | none => exact inferInstanceAs (FtF fr0)
 | some x => exact i.h x (List.mem_of_getElem? e)
instance {l : List Fr} [i : FtS l] {k : Nat} : FtF (l.getD k fr0) := i.getD k
instance {l : List Rat} : FtS (l.map frK) := ⟨fun f hf => by obtain ⟨q,_,rfl⟩ := List.mem_map.1 hf; infer_instance⟩
class VL (S : SV) (l : outParam (List Fr)) : Prop where
 v : Vw (lv rF) S l
 t : FtS l
instance {S : SV} {l : List Fr} [v : Vw (lv rF) S l] [t : FtS l] : VL S l := ⟨v,t⟩
theorem FtS.bq {l : List Fr} (i : FtS l) : ∀ x ∈ l,Go.Ear.bq x.rat <= bf x := fun x hx => bq_rat (i.h x hx).h
theorem FtS.bqg {l : List Fr} (i : FtS l) (k : Nat) : Go.Ear.bq (l.getD k fr0).rat <= bf (l.getD k fr0) := bq_rat (i.getD k).h
end Go.E3
