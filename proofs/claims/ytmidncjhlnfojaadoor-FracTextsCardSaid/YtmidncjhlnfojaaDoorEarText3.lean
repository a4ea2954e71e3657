/- About package frac: EarText3. -/
import Derived.Test.YtmidncjhlnfojaaDoorEarText2
set_option linter.all false
namespace Go.Ear
theorem frK_natn (m : Nat) : (frK (((m : Nat) : Int) : Rat)).n = digs m := by show digs _ = _; rw [natcast_num]
theorem powR10 (p : Nat) : powR ((((10 : Nat) : Int)) : Rat) ((p : Nat) : Int) = (((10 ^ p : Nat) : Int) : Rat) := by
  unfold powR powB
  rw [if_neg (by omega), Int.natAbs_natCast, ten_pow]
theorem bq_natc (m : Nat) : bq (((m : Nat) : Int) : Rat) ≤ sz m + 1 := by
  unfold bq
  rw [Rat.num_intCast, Rat.den_intCast, sz_one, Int.natAbs_natCast]; omega
theorem bq_powR10 (p : Nat) : bq (powR ((((10 : Nat) : Int)) : Rat) ((p : Nat) : Int)) ≤ p * sz 10 + 2 := by
  rw [powR10]
  exact Nat.le_trans (bq_natc _) (Nat.add_le_add_right (sz_pow 10 p) 1)
theorem rdec_c {a : Fr} {p : Nat} : ((a.neg = true) ∧ (0 < (frK (((decN a.rat p : Nat) : Int) : Rat)).n.length)) ↔ (a.rat.num < 0 ∧ decN a.rat p ≠ 0) := by
  rw [← dec_sign, frK_natn, len_pos]
theorem rdec_neg {a : Fr} {p : Nat} {s t : List UInt8} (h : p ≤ 1000) (hc : (a.neg = true) ∧ (0 < (frK (((decN a.rat p : Nat) : Int) : Rat)).n.length)) (hs : padT p (decT (decN a.rat p)) = s) (ht : t = dotT p s) : [45] ++ t = decimalQ a.rat (p : Int) := by
  rw [decimal_of h, hs, ← ht, if_pos (rdec_c.1 hc)]
theorem rdec_nonneg {a : Fr} {p : Nat} {s t : List UInt8} (h : p ≤ 1000) (hc : ¬ ((a.neg = true) ∧ (0 < (frK (((decN a.rat p : Nat) : Int) : Rat)).n.length))) (hs : padT p (decT (decN a.rat p)) = s) (ht : t = dotT p s) : t = decimalQ a.rat (p : Int) := by
  rw [decimal_of h, hs, ← ht, if_neg (fun e => hc (rdec_c.2 e))]; rfl
theorem bq_abs (q : Rat) : bq (Fr.mk false (frK q).n (frK q).d).rat ≤ bq q := by
  rw [mk_abs]; exact bq_ratOf q.den_nz (bq_num q) (bq_den q)
theorem padT_all (p n : Nat) : (padT p (decT n)).all isDig = true := by
  unfold padT; rw [List.all_append, decT_all, Bool.and_true, List.all_eq_true]
  intro x hx; rw [List.eq_of_mem_replicate hx]; rfl
theorem readN_app (l m : List UInt8) : readN (l ++ m) = readN l * 10 ^ m.length + readN m := by
  have key : ∀ (m : List UInt8) (z : Nat), m.foldl (fun n c => n * 10 + (c.toNat - 48)) z = z * 10 ^ m.length + readN m := by
    intro m
    induction m with
    | nil => intro z; simp [readN]
    | cons c m ih =>
      intro z
      rw [List.foldl_cons, ih, List.length_cons]
      show _ = z * 10 ^ (m.length + 1) + m.foldl (fun n c => n * 10 + (c.toNat - 48)) (0 * 10 + (c.toNat - 48))
      rw [ih, Nat.pow_succ]
      grind
  unfold readN
  rw [List.foldl_append, key]; rfl
theorem readN_zeros (k : Nat) : readN (List.replicate k 48) = 0 := by
  induction k with
  | zero => rfl
  | succ k ih => rw [List.replicate_succ', readN_snoc, ih]; rfl
theorem readN_pad (p n : Nat) : readN (padT p (decT n)) = n := by unfold padT; rw [readN_app, readN_zeros, readN_decT]; simp
theorem padT_len (p n : Nat) : p + 1 ≤ (padT p (decT n)).length := by unfold padT; rw [List.length_append, List.length_replicate]; omega
theorem parse_dot (b : Bool) (p n : Nat) : parseS b (dotT p (padT p (decT n))) = (ratOf b n (10 ^ p), 0) := by
  have ha := padT_all p n
  have hl := padT_len p n
  have hr := readN_pad p n
  generalize padT p (decT n) = s at ha hl hr
  by_cases hp : p = 0
  · subst hp
    rw [dotT_zero rfl, parseS_int b ha (by rintro rfl; simp at hl), hr, Nat.pow_zero]
  · have h1 : (s.take (s.length - p)).all isDig = true := by
      rw [List.all_eq_true] at ha ⊢; exact fun x hx => ha x (List.mem_of_mem_take hx)
    have h2 : (s.drop (s.length - p)).all isDig = true := by
      rw [List.all_eq_true] at ha ⊢; exact fun x hx => ha x (List.mem_of_mem_drop hx)
    have h3 : (s.drop (s.length - p)).length = p := by rw [List.length_drop]; omega
    have h4 : (s.take (s.length - p)).length = s.length - p := by rw [List.length_take]; omega
    unfold dotT
    rw [if_neg hp, parseS_dec b h1 h2 (by intro e; rw [e] at h4; simp at h4; omega) (by intro e; rw [e] at h3; simp at h3; omega), h3]
    have := readN_app (s.take (s.length - p)) (s.drop (s.length - p))
    rw [List.take_append_drop, h3, hr] at this
    rw [← this]
theorem dot_head {p n : Nat} : isNeg (dotT p (padT p (decT n))) = false := by
  have ha := padT_all p n
  have hl := padT_len p n
  generalize padT p (decT n) = s at ha hl
  cases s with
  | nil => simp at hl
  | cons x s =>
    rw [List.all_cons, Bool.and_eq_true] at ha
    have hx := ha.1
    simp only [isDig, Bool.and_eq_true, decide_eq_true_eq] at hx
    have e : (dotT p (x :: s)).getD 0 0 = x := by
      unfold dotT
      split
      · rfl
      · rw [List.length_cons] at hl ⊢
        rw [show s.length + 1 - p = (s.length - p) + 1 by omega, List.take_succ_cons]; rfl
    unfold isNeg
    rw [e, decide_eq_false (show ¬ x.toNat = 45 by omega), Bool.and_false]
def decR (q : Rat) (p : Nat) : Rat := ratOf (decide (q.num < 0 ∧ decN q p ≠ 0)) (decN q p) (10 ^ p)
theorem parse_dec {q : Rat} {p : Nat} (hp : p ≤ 1000) (h : (decimalQ q (p : Int)).length ≤ 10000) : parseQ (decimalQ q (p : Int)) = (decR q p, 0) := by
  rw [decimal_of hp] at h ⊢
  unfold decR
  by_cases hc : q.num < 0 ∧ decN q p ≠ 0
  · rw [if_pos hc] at h ⊢
    replace h : (45 :: dotT p (padT p (decT (decN q p)))).length ≤ 10000 := h
    show parseQ (45 :: dotT p (padT p (decT (decN q p)))) = _
    rw [parse_m (b := true) (m := dotT p (padT p (decT (decN q p)))) (by omega) (isNeg_min _) (by rw [if_pos rfl]; rfl), parse_dot, decide_eq_true hc]
  · rw [if_neg hc] at h ⊢
    rw [List.nil_append] at h ⊢
    rw [parse_m (b := false) (m := dotT p (padT p (decT (decN q p)))) (by omega) dot_head (by rw [if_neg (by decide)]), parse_dot, decide_eq_false hc]
end Go.Ear
