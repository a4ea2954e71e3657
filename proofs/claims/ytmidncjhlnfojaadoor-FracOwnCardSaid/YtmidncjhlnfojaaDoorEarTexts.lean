/- About package frac: EarTexts. -/
import Derived.Test.YtmidncjhlnfojaaDoorEarWhole
set_option linter.all false
namespace Go.Ear
theorem add_u8 {a b : Nat} (h : a + b ≤ 255) : IntKind.u8.wrap ((a : Int) + (b : Int)) = ((a + b : Nat) : Int) := (in_u8 (by omega)).trans (by omega)
theorem frK_dd (q : Rat) : digs (val (frK q).d) = (frK q).d := by
  show digs (val (if q.den = 1 then [] else digs q.den)) = if q.den = 1 then [] else digs q.den
  split
  · show digs 0 = []; exact digs_zero
  · rw [val_digs]
theorem frK_sd (q : Rat) : sz (val (frK q).d) ≤ bq q := by
  show sz (val (if q.den = 1 then [] else digs q.den)) ≤ bq q
  split
  · show sz 0 ≤ _; rw [sz_eq_zero.2 rfl]; exact Nat.zero_le _
  · rw [val_digs]; exact bq_den q
theorem textQ_frK (q : Rat) : textQ q = (if (frK q).neg = true then [45] else []) ++ (decT q.num.natAbs ++ if 0 < (frK q).d.length then 47 :: decT (val (frK q).d) else []) := by
  unfold textQ
  have h1 : ((frK q).neg = true) = (q.num < 0) := by show (decide (q.num < 0) = true) = _; rw [decide_eq_true_eq]
  simp only [h1]
  congr 2
  by_cases hd : q.den = 1
  · have : (frK q).d = [] := by show (if q.den = 1 then [] else digs q.den) = []; rw [if_pos hd]
    rw [if_pos hd, this]; rfl
  · have e : (frK q).d = digs q.den := by show (if q.den = 1 then [] else digs q.den) = _; rw [if_neg hd]
    rw [if_neg hd, e, val_digs, if_pos (Nat.pos_of_ne_zero (fun h => q.den_nz (len_zero.1 h)))]
end Go.Ear
namespace Go.Ear
theorem dig10_is {d : Nat} (h : d < 10) : isDig (dig10 d) = true := by
  unfold isDig dig10
  rw [UInt8.toNat_ofNat_of_lt' (by show _ < 256; omega)]
  simp; omega
theorem dig10_nat {d : Nat} (h : d < 10) : (dig10 d).toNat = 48 + d := by
  unfold dig10
  rw [UInt8.toNat_ofNat_of_lt' (by show _ < 256; omega)]
theorem decT_all (n : Nat) : (decT n).all isDig = true := by
  induction n using Nat.strongRecOn with
  | _ n ih =>
    by_cases h : n < 10
    · rw [decT_small h]; simp [dig10_is h]
    · rw [decT_big h, List.all_append, ih _ (by omega)]; simp [dig10_is (show n % 10 < 10 by omega)]
theorem readN_decT (n : Nat) : readN (decT n) = n := by
  induction n using Nat.strongRecOn with
  | _ n ih =>
    by_cases h : n < 10
    · rw [decT_small h]; show 0 * 10 + ((dig10 n).toNat - 48) = n; rw [dig10_nat h]; omega
    · rw [decT_big h, readN_snoc, ih _ (by omega), dig10_nat (show n % 10 < 10 by omega)]; omega
theorem tw_app {d r : List UInt8} (h : d.all isDig = true) (hr : ∀ x ∈ r.head?, isDig x = false) : tw (d ++ r) = d := by
  induction d with
  | nil =>
    cases r with
    | nil => rfl
    | cons x r => unfold tw; rw [List.nil_append, List.takeWhile_cons, if_neg (by rw [hr x rfl]; decide)]
  | cons y d ih =>
    rw [List.all_cons, Bool.and_eq_true] at h
    have := ih h.2
    unfold tw at this ⊢
    rw [List.cons_append, List.takeWhile_cons, if_pos h.1, this]
theorem tw_self {d : List UInt8} (h : d.all isDig = true) : tw d = d := by
  have := tw_app (r := []) h (fun x hx => by cases hx)
  rwa [List.append_nil] at this
theorem decT_head (n : Nat) (r : List UInt8) : ¬ ((decT n ++ r).getD 0 0).toNat = 45 := by
  have h1 := decT_pos n
  have h2 := decT_all n
  cases e : decT n with
  | nil => rw [e] at h1; simp at h1
  | cons x l =>
    rw [e, List.all_cons, Bool.and_eq_true] at h2
    have := h2.1
    simp only [isDig, Bool.and_eq_true, decide_eq_true_eq] at this
    show ¬ x.toNat = 45
    omega
theorem isNeg_dig (n : Nat) (r : List UInt8) : isNeg (decT n ++ r) = false := by
  unfold isNeg; rw [decide_eq_false (decT_head n r), Bool.and_false]
theorem isNeg_min (l : List UInt8) : isNeg (45 :: l) = true := by
  unfold isNeg; rw [decide_eq_true (by simp), decide_eq_true (by rfl)]; rfl
theorem parseS_int (b : Bool) {m : List UInt8} (h : m.all isDig = true) (h1 : m ≠ []) : parseS b m = (ratOf b (readN m) 1, 0) := by
  have e := tw_self h
  have hl : m.length ≠ 0 := fun e => h1 (List.eq_nil_of_length_eq_zero e)
  have := parse_2 (b := b) (m := m) (by rw [e]; exact hl) (by rw [e])
  rwa [e] at this
theorem drop_mark (d r : List UInt8) (c : UInt8) : (d ++ c :: r).drop (d.length + 1) = r := by
  rw [List.drop_append, List.drop_of_length_le (by omega), List.nil_append, show d.length + 1 - d.length = 1 by omega]; rfl
theorem getD_mark (d r : List UInt8) (c : UInt8) : (d ++ c :: r).getD d.length 0 = c := by
  rw [List.getD_eq_getElem?_getD, List.getElem?_append_right (Nat.le_refl _), Nat.sub_self]; rfl
theorem parseS_quo (b : Bool) {d r : List UInt8} (hd : d.all isDig = true) (hr : r.all isDig = true) (h1 : d ≠ []) (h2 : readN r ≠ 0) : parseS b (d ++ 47 :: r) = (ratOf b (readN d) (readN r), 0) := by
  have e : tw (d ++ 47 :: r) = d := tw_app hd (fun x hx => by simp at hx; subst hx; rfl)
  have ed := drop_mark d r 47
  have eg := getD_mark d r 47
  have er := tw_self hr
  have hr0 : r ≠ [] := by rintro rfl; exact h2 rfl
  have := parse_6 (b := b) (m := d ++ 47 :: r) (by rw [e]; exact fun e => h1 (List.eq_nil_of_length_eq_zero e)) (by rw [e]; simp)
    (by rw [e, ed, er, eg]; rintro (h | h | h)
        · exact hr0 (List.eq_nil_of_length_eq_zero h)
        · exact h rfl
        · exact h.2 rfl)
    (by rw [e, eg]; decide) (by rw [e, ed, er]; exact fun h => h2 (len_zero.1 h))
  rw [e, ed, er] at this
  exact this
theorem parseS_dec (b : Bool) {d r : List UInt8} (hd : d.all isDig = true) (hr : r.all isDig = true) (h1 : d ≠ []) (hr0 : r ≠ []) :
    parseS b (d ++ 46 :: r) = (ratOf b (readN d * 10 ^ r.length + readN r) (10 ^ r.length), 0) := by
  have e : tw (d ++ 46 :: r) = d := tw_app hd (fun x hx => by simp at hx; subst hx; rfl)
  have ed := drop_mark d r 46
  have eg := getD_mark d r 46
  have er := tw_self hr
  have := parse_4 (b := b) (m := d ++ 46 :: r) (by rw [e]; exact fun e => h1 (List.eq_nil_of_length_eq_zero e)) (by rw [e]; simp)
    (by rw [e, ed, er, eg]; rintro (h | h | h)
        · exact hr0 (List.eq_nil_of_length_eq_zero h)
        · exact h rfl
        · exact h.1 rfl)
    (by rw [e, eg]; decide)
  rw [e, ed, er] at this
  exact this
theorem decT_ne (n : Nat) : decT n ≠ [] := fun e => by have := decT_pos n; rw [e] at this; simp at this
theorem parse_text {q : Rat} (h : (textQ q).length ≤ 10000) : parseQ (textQ q) = (q, 0) := by
  have key : ∀ b : Bool, parseS b (decT q.num.natAbs ++ if q.den = 1 then [] else 47 :: decT q.den) = (ratOf b q.num.natAbs q.den, 0) := by
    intro b
    by_cases hd : q.den = 1
    · rw [if_pos hd, List.append_nil, parseS_int b (decT_all _) (decT_ne _), readN_decT, hd]
    · rw [if_neg hd, parseS_quo b (decT_all _) (decT_all _) (decT_ne _) (by rw [readN_decT]; exact q.den_nz), readN_decT, readN_decT]
  have hs := ratOf_self q
  by_cases hn : q.num < 0
  · have e : textQ q = 45 :: (decT q.num.natAbs ++ if q.den = 1 then [] else 47 :: decT q.den) := by unfold textQ; rw [if_pos hn]; rfl
    rw [parse_m (b := true) (m := decT q.num.natAbs ++ if q.den = 1 then [] else 47 :: decT q.den) (by omega) (by rw [e]; exact isNeg_min _) (by rw [if_pos rfl, e]; rfl), key]
    rw [decide_eq_true hn] at hs; rw [hs]
  · have e : textQ q = decT q.num.natAbs ++ if q.den = 1 then [] else 47 :: decT q.den := by unfold textQ; rw [if_neg hn]; rfl
    rw [parse_m (b := false) (m := textQ q) (by omega) (by rw [e]; exact isNeg_dig _ _) (by rw [if_neg (by decide)]), e, key]
    rw [decide_eq_false hn] at hs; rw [hs]
theorem textQ_len (q : Rat) : (textQ q).length ≤ 20 * bq q + 4 := by
  have h1 := decT_len q.num.natAbs
  have h2 := decT_len q.den
  have h3 := bq_num q
  have h4 := bq_den q
  unfold textQ
  rw [List.length_append, List.length_append]
  split <;> split <;> simp <;> omega
end Go.Ear
namespace Go.Ear
theorem frK_natn (m : Nat) : (frK (((m : Nat) : Int) : Rat)).n = digs m := by show digs _ = _; rw [natcast_num]
theorem powR10 (p : Nat) : powR ((((10 : Nat) : Int)) : Rat) ((p : Nat) : Int) = (((10 ^ p : Nat) : Int) : Rat) := by
  unfold powR powB
  rw [if_neg (by omega), Int.natAbs_natCast, ten_pow]
theorem bq_natc (m : Nat) : bq (((m : Nat) : Int) : Rat) ≤ sz m + 1 := by
  unfold bq
  rw [Rat.num_intCast, Rat.den_intCast, sz_one, Int.natAbs_natCast]; omega
theorem bq_powR10 (p : Nat) : bq (powR ((((10 : Nat) : Int)) : Rat) ((p : Nat) : Int)) ≤ p * sz 10 + 2 := by
  rw [powR10]
  exact Nat.le_trans (bq_natc _) (Nat.add_le_add_right (sz_pow 10 p) 1)
theorem rdec_c {a : Fr} {p : Nat} : ((a.neg = true) ∧ (0 < (frK (((decN a.rat p : Nat) : Int) : Rat)).n.length)) ↔ (a.rat.num < 0 ∧ decN a.rat p ≠ 0) := by
  rw [← dec_sign, frK_natn, len_pos]
theorem rdec_neg {a : Fr} {p : Nat} {s t : List UInt8} (h : p ≤ 1000) (hc : (a.neg = true) ∧ (0 < (frK (((decN a.rat p : Nat) : Int) : Rat)).n.length)) (hs : padT p (decT (decN a.rat p)) = s) (ht : t = dotT p s) : [45] ++ t = decimalQ a.rat (p : Int) := by
  rw [decimal_of h, hs, ← ht, if_pos (rdec_c.1 hc)]
theorem rdec_nonneg {a : Fr} {p : Nat} {s t : List UInt8} (h : p ≤ 1000) (hc : ¬ ((a.neg = true) ∧ (0 < (frK (((decN a.rat p : Nat) : Int) : Rat)).n.length))) (hs : padT p (decT (decN a.rat p)) = s) (ht : t = dotT p s) : t = decimalQ a.rat (p : Int) := by
  rw [decimal_of h, hs, ← ht, if_neg (fun e => hc (rdec_c.2 e))]; rfl
theorem bq_abs (q : Rat) : bq (Fr.mk false (frK q).n (frK q).d).rat ≤ bq q := by
  rw [mk_abs]; exact bq_ratOf q.den_nz (bq_num q) (bq_den q)
theorem padT_all (p n : Nat) : (padT p (decT n)).all isDig = true := by
  unfold padT; rw [List.all_append, decT_all, Bool.and_true, List.all_eq_true]
  intro x hx; rw [List.eq_of_mem_replicate hx]; rfl
theorem readN_app (l m : List UInt8) : readN (l ++ m) = readN l * 10 ^ m.length + readN m := by
  have key : ∀ (m : List UInt8) (z : Nat), m.foldl (fun n c => n * 10 + (c.toNat - 48)) z = z * 10 ^ m.length + readN m := by
    intro m
    induction m with
    | nil => intro z; simp [readN]
    | cons c m ih =>
      intro z
      rw [List.foldl_cons, ih, List.length_cons]
      show _ = z * 10 ^ (m.length + 1) + m.foldl (fun n c => n * 10 + (c.toNat - 48)) (0 * 10 + (c.toNat - 48))
      rw [ih, Nat.pow_succ]
      grind
  unfold readN
  rw [List.foldl_append, key]; rfl
theorem readN_zeros (k : Nat) : readN (List.replicate k 48) = 0 := by
  induction k with
  | zero => rfl
  | succ k ih => rw [List.replicate_succ', readN_snoc, ih]; rfl
theorem readN_pad (p n : Nat) : readN (padT p (decT n)) = n := by unfold padT; rw [readN_app, readN_zeros, readN_decT]; simp
theorem padT_len (p n : Nat) : p + 1 ≤ (padT p (decT n)).length := by unfold padT; rw [List.length_append, List.length_replicate]; omega
theorem parse_dot (b : Bool) (p n : Nat) : parseS b (dotT p (padT p (decT n))) = (ratOf b n (10 ^ p), 0) := by
  have ha := padT_all p n
  have hl := padT_len p n
  have hr := readN_pad p n
  generalize padT p (decT n) = s at ha hl hr
  by_cases hp : p = 0
  · subst hp
    rw [dotT_zero rfl, parseS_int b ha (by rintro rfl; simp at hl), hr, Nat.pow_zero]
  · have h1 : (s.take (s.length - p)).all isDig = true := by
      rw [List.all_eq_true] at ha ⊢; exact fun x hx => ha x (List.mem_of_mem_take hx)
    have h2 : (s.drop (s.length - p)).all isDig = true := by
      rw [List.all_eq_true] at ha ⊢; exact fun x hx => ha x (List.mem_of_mem_drop hx)
    have h3 : (s.drop (s.length - p)).length = p := by rw [List.length_drop]; omega
    have h4 : (s.take (s.length - p)).length = s.length - p := by rw [List.length_take]; omega
    unfold dotT
    rw [if_neg hp, parseS_dec b h1 h2 (by intro e; rw [e] at h4; simp at h4; omega) (by intro e; rw [e] at h3; simp at h3; omega), h3]
    have := readN_app (s.take (s.length - p)) (s.drop (s.length - p))
    rw [List.take_append_drop, h3, hr] at this
    rw [← this]
theorem dot_head {p n : Nat} : isNeg (dotT p (padT p (decT n))) = false := by
  have ha := padT_all p n
  have hl := padT_len p n
  generalize padT p (decT n) = s at ha hl
  cases s with
  | nil => simp at hl
  | cons x s =>
    rw [List.all_cons, Bool.and_eq_true] at ha
    have hx := ha.1
    simp only [isDig, Bool.and_eq_true, decide_eq_true_eq] at hx
    have e : (dotT p (x :: s)).getD 0 0 = x := by
      unfold dotT
      split
      · rfl
      · rw [List.length_cons] at hl ⊢
        rw [show s.length + 1 - p = (s.length - p) + 1 by omega, List.take_succ_cons]; rfl
    unfold isNeg
    rw [e, decide_eq_false (show ¬ x.toNat = 45 by omega), Bool.and_false]
def decR (q : Rat) (p : Nat) : Rat := ratOf (decide (q.num < 0 ∧ decN q p ≠ 0)) (decN q p) (10 ^ p)
theorem parse_dec {q : Rat} {p : Nat} (hp : p ≤ 1000) (h : (decimalQ q (p : Int)).length ≤ 10000) : parseQ (decimalQ q (p : Int)) = (decR q p, 0) := by
  rw [decimal_of hp] at h ⊢
  unfold decR
  by_cases hc : q.num < 0 ∧ decN q p ≠ 0
  · rw [if_pos hc] at h ⊢
    replace h : (45 :: dotT p (padT p (decT (decN q p)))).length ≤ 10000 := h
    show parseQ (45 :: dotT p (padT p (decT (decN q p)))) = _
    rw [parse_m (b := true) (m := dotT p (padT p (decT (decN q p)))) (by omega) (isNeg_min _) (by rw [if_pos rfl]; rfl), parse_dot, decide_eq_true hc]
  · rw [if_neg hc] at h ⊢
    rw [List.nil_append] at h ⊢
    rw [parse_m (b := false) (m := dotT p (padT p (decT (decN q p)))) (by omega) dot_head (by rw [if_neg (by decide)]), parse_dot, decide_eq_false hc]
end Go.Ear
namespace Go.Ear
theorem near_int {n d m t : Int} (hd : 0 < d) (ht : 0 < t) (h1 : m * (d * 2) ≤ n * t * 2 + d) (h2 : n * t * 2 + d < (m + 1) * (d * 2)) :
    ((n : Rat) / (d : Rat) - (m : Rat) / (t : Rat)) * (2 * (t : Rat)) ≤ 1 ∧ -1 ≤ ((n : Rat) / (d : Rat) - (m : Rat) / (t : Rat)) * (2 * (t : Rat)) := by
  have hd' : (0 : Rat) < (d : Rat) := Rat.intCast_pos.2 hd
  have ht' : (0 : Rat) < (t : Rat) := Rat.intCast_pos.2 ht
  have h1' := Rat.intCast_le_intCast.2 h1
  have h2' := Rat.intCast_le_intCast.2 (Int.le_of_lt h2)
  simp only [Rat.intCast_mul, Rat.intCast_add] at h1' h2'
  have e1 : ((1 : Int) : Rat) = 1 := rfl
  have e2 : ((2 : Int) : Rat) = 2 := rfl
  rw [e2] at h1'
  rw [e2, e1] at h2'
  have hdn : (d : Rat) ≠ 0 := Rat.ne_of_gt hd'
  have htn : (t : Rat) ≠ 0 := Rat.ne_of_gt ht'
  have hq : ((n : Rat) / (d : Rat) - (m : Rat) / (t : Rat)) * (2 * (t : Rat)) * (d : Rat) = (n : Rat) * (t : Rat) * 2 - (m : Rat) * ((d : Rat) * 2) := by
    rw [Rat.div_def, Rat.div_def]
    have a1 : (d : Rat)⁻¹ * (d : Rat) = 1 := Rat.inv_mul_cancel _ hdn
    have a2 : (t : Rat)⁻¹ * (t : Rat) = 1 := Rat.inv_mul_cancel _ htn
    generalize (d : Rat)⁻¹ = di at *
    generalize (t : Rat)⁻¹ = ti at *
    grind
  generalize ((n : Rat) / (d : Rat) - (m : Rat) / (t : Rat)) * (2 * (t : Rat)) = y at *
  constructor
  · refine Rat.le_of_mul_le_mul_right (c := (d : Rat)) ?_ hd'
    rw [hq, Rat.one_mul]; grind
  · refine Rat.le_of_mul_le_mul_right (c := (d : Rat)) ?_ hd'
    rw [hq]; grind
theorem abs_or (x : Rat) : (Fr.mk false (frK x).n (frK x).d).rat = x ∨ (Fr.mk false (frK x).n (frK x).d).rat = -x := by
  rw [mk_abs]
  have h := ratOf_self x
  rw [ratOf_div] at h ⊢
  by_cases hn : x.num < 0
  · right
    rw [decide_eq_true hn] at h
    unfold sgn at h ⊢
    rw [if_pos rfl] at h
    rw [if_neg (by decide)]
    generalize x.num.natAbs = N at *
    generalize x.den = D at *
    rw [← h, Rat.div_def, Rat.div_def, Rat.intCast_neg, Rat.neg_mul, Rat.neg_neg]
  · left
    rw [decide_eq_false hn] at h
    exact h
theorem dec_floor (q : Rat) (p : Nat) : (decN q p : Int) * ((q.den : Int) * 2) ≤ (q.num.natAbs : Int) * ((10 ^ p : Nat) : Int) * 2 + (q.den : Int) ∧
    (q.num.natAbs : Int) * ((10 ^ p : Nat) : Int) * 2 + (q.den : Int) < ((decN q p : Int) + 1) * ((q.den : Int) * 2) := by
  have hp : 0 < q.den * 2 := Nat.mul_pos (Nat.pos_of_ne_zero q.den_nz) (by decide)
  have h1 := Nat.div_mul_le_self (q.num.natAbs * 10 ^ p * 2 + q.den) (q.den * 2)
  have h2 := Nat.lt_div_mul_add (a := q.num.natAbs * 10 ^ p * 2 + q.den) hp
  have e : (q.num.natAbs * 10 ^ p * 2 + q.den) / (q.den * 2) = decN q p := rfl
  rw [e] at h1 h2
  have h3 : q.num.natAbs * 10 ^ p * 2 + q.den < (decN q p + 1) * (q.den * 2) := by rw [Nat.add_mul, Nat.one_mul]; exact h2
  exact ⟨by exact_mod_cast h1, by exact_mod_cast h3⟩
theorem dec_near (q : Rat) (p : Nat) : ¬ (0 < sgQ ((Fr.mk false (frK (q - decR q p)).n (frK (q - decR q p)).d).rat * (((((2 : Nat) : Int)) : Rat) * powR ((((10 : Nat) : Int)) : Rat) ((p : Nat) : Int)) - ((((1 : Nat) : Int)) : Rat))) := by
  rw [sgQ_pos, powR10]
  have e1 : ((((1 : Nat) : Int)) : Rat) = 1 := rfl
  have e2 : ((((2 : Nat) : Int)) : Rat) = 2 := rfl
  rw [e1, e2]
  obtain ⟨f1, f2⟩ := dec_floor q p
  have hd : (0 : Int) < (q.den : Int) := by have := Nat.pos_of_ne_zero q.den_nz; omega
  have ht : (0 : Int) < ((10 ^ p : Nat) : Int) := by have := Nat.pow_pos (n := p) (show 0 < 10 by decide); omega
  obtain ⟨n1, n2⟩ := near_int hd ht f1 f2
  have hq := ratOf_self q
  have hx : q - decR q p = ((q.num.natAbs : Int) : Rat) / ((q.den : Int) : Rat) - ((decN q p : Int) : Rat) / ((((10 ^ p : Nat) : Int)) : Rat) ∨
      q - decR q p = -(((q.num.natAbs : Int) : Rat) / ((q.den : Int) : Rat) - ((decN q p : Int) : Rat) / ((((10 ^ p : Nat) : Int)) : Rat)) := by
    rw [ratOf_div] at hq
    unfold decR
    rw [ratOf_div]
    by_cases hn : q.num < 0
    · right
      rw [decide_eq_true hn] at hq
      have hr : ((sgn (decide (q.num < 0 ∧ decN q p ≠ 0)) (decN q p) : Int) : Rat) = -((decN q p : Int) : Rat) := by
        by_cases hm : decN q p = 0
        · rw [hm, decide_eq_false (fun h => h.2 rfl)]; rfl
        · rw [decide_eq_true ⟨hn, hm⟩]; unfold sgn; rw [if_pos rfl, Rat.intCast_neg]
      have hs : ((sgn true q.num.natAbs : Int) : Rat) = -((q.num.natAbs : Int) : Rat) := by unfold sgn; rw [if_pos rfl, Rat.intCast_neg]
      rw [hs] at hq
      rw [hr]
      clear hr hs n1 n2 f1 f2 hd ht e1 e2
      generalize ((q.num.natAbs : Int) : Rat) = N at *
      generalize ((q.den : Int) : Rat) = D at *
      generalize ((decN q p : Int) : Rat) = M
      generalize ((((10 ^ p : Nat) : Int)) : Rat) = T
      rw [Rat.div_def] at hq
      rw [Rat.div_def, Rat.div_def, Rat.div_def, ← hq]
      generalize D⁻¹ = Di
      generalize T⁻¹ = Ti
      grind
    · left
      rw [decide_eq_false hn] at hq
      have hr : ((sgn (decide (q.num < 0 ∧ decN q p ≠ 0)) (decN q p) : Int) : Rat) = ((decN q p : Int) : Rat) := by
        rw [decide_eq_false (fun h => hn h.1)]; rfl
      have hs : ((sgn false q.num.natAbs : Int) : Rat) = ((q.num.natAbs : Int) : Rat) := rfl
      rw [hs] at hq
      rw [hr, hq]
  generalize ((q.num.natAbs : Int) : Rat) / ((q.den : Int) : Rat) - ((decN q p : Int) : Rat) / ((((10 ^ p : Nat) : Int)) : Rat) = y at *
  generalize q - decR q p = x at *
  generalize ((((10 ^ p : Nat) : Int)) : Rat) = T at *
  have ha := abs_or x
  generalize (Fr.mk false (frK x).n (frK x).d).rat = z at *
  rw [Rat.not_lt]
  have hz : z = y ∨ z = -y := by
    rcases ha with ha | ha <;> rcases hx with hx | hx <;> rw [ha, hx]
    · exact .inl rfl
    · exact .inr rfl
    · exact .inr rfl
    · left; rw [Rat.neg_neg]
  rcases hz with rfl | rfl <;> grind
theorem sz_decN (q : Rat) (p : Nat) : sz (decN q p) ≤ 2 * bq q + p * sz 10 + 4 := by
  have h1 := bq_num q
  have h2 := bq_den q
  have a0 := sz_pow 10 p
  have a1 := sz_mul q.num.natAbs (10 ^ p)
  have a2 := sz_mul (q.num.natAbs * 10 ^ p) 2
  have a3 := sz_add (q.num.natAbs * 10 ^ p * 2) q.den
  have a4 := sz_mono (Nat.div_le_self (q.num.natAbs * 10 ^ p * 2 + q.den) (q.den * 2))
  have a5 := sz_small (n := 2) (by decide)
  have e : (q.num.natAbs * 10 ^ p * 2 + q.den) / (q.den * 2) = decN q p := rfl
  rw [e] at a4
  omega
theorem decimal_len {q : Rat} {p : Nat} (hp : p ≤ 1000) : (decimalQ q (p : Int)).length ≤ p + 20 * bq q + 10 * (p * sz 10) + 60 := by
  have h1 := sz_decN q p
  have h2 := decT_len (decN q p)
  have h3 : (padT p (decT (decN q p))).length ≤ p + 1 + (decT (decN q p)).length := by unfold padT; rw [List.length_append, List.length_replicate]; omega
  have h4 : ∀ s : List UInt8, (dotT p s).length ≤ s.length + 1 := by
    intro s; unfold dotT
    split
    · omega
    · rw [List.length_append, List.length_cons, List.length_take, List.length_drop]; omega
  have h5 := h4 (padT p (decT (decN q p)))
  rw [decimal_of hp, List.length_append]
  split <;> simp <;> omega
theorem bq_decR (q : Rat) (p : Nat) : bq (decR q p) ≤ 2 * bq q + p * sz 10 + 5 := by
  have h1 := sz_decN q p
  have h2 := sz_pow 10 p
  exact bq_ratOf (Nat.pos_iff_ne_zero.1 (Nat.pow_pos (by decide))) (by omega) (by omega)
end Go.Ear
namespace Go.Ear
section ops
variable {P : Program} {n : Nat} {ρ : Env} {w : World} {K : Env → World → Prop} {d : Tmp} {ty : TypeId} {pos : String} {af : Array Edge} {g : Option (Nat × Bool)}
theorem OpW.field1 {t : TypeId} {fs : Array Field} {f : Field} {x : Operand} {i : Nat} {cs : Array Value} {v : Value} (ht : IsUnd P t (.struct fs)) (hf : fs[i]? = some f) (hA : IsAgg P f.type false)
    (hx : ev n ρ x = .agg cs) (hv : cs[f.offset]? = some v) (hk : K (upd ρ d v) w) : OpW P n ⟨some d, .field t x i, ty, pos, af, g⟩ ρ w K := by
  refine OpW.valD ?_ hk
  simp [execOp, Instr.field, hx, ht.run w, hf, asAgg, part, hA w, hv]
end ops
def mOf (l : List UInt8) : List UInt8 := if isNeg l = true then l.drop 1 else l
theorem mOf_t {l : List UInt8} (h : (0 < l.length) ∧ ((l.getD 0 0).toNat = 45)) : l.drop 1 = mOf l := by unfold mOf; rw [if_pos (isNeg_t h)]
theorem mOf_f {l : List UInt8} (h : ¬ ((0 < l.length) ∧ ((l.getD 0 0).toNat = 45))) : l = mOf l := by unfold mOf; rw [if_neg (isNeg_f h)]
theorem mOf_len (l : List UInt8) : (mOf l).length ≤ l.length := by unfold mOf; split <;> simp
theorem pm {l : List UInt8} (h : ¬ 10000 < l.length) : parseQ l = parseS (isNeg l) (mOf l) := parse_m h rfl rfl
def isMk (b : UInt8) : Bool := decide (b.toNat = 46) || decide (b.toNat = 47)
def CutInv (m : List UInt8) (k c : Nat) : Prop := k ≤ c ∧ c ≤ m.length ∧ (c = m.length ∨ isMk (m.getD c 0) = true) ∧ ∀ j, k ≤ j → j < c → isMk (m.getD j 0) = false
theorem cut_init (m : List UInt8) : CutInv m m.length m.length := ⟨Nat.le_refl _, Nat.le_refl _, .inl rfl, fun j h1 h2 => by omega⟩
theorem cut_yes {m : List UInt8} {k : Nat} (h0 : 0 < k) (hk : k ≤ m.length) (hm : (m.getD (k - 1) 0).toNat = 46 ∨ (m.getD (k - 1) 0).toNat = 47) : CutInv m (k - 1) (k - 1) :=
  ⟨Nat.le_refl _, by omega, .inr (by unfold isMk; rw [Bool.or_eq_true, decide_eq_true_iff, decide_eq_true_iff]; exact hm), fun j h1 h2 => by omega⟩
theorem cut_no {m : List UInt8} {k c : Nat} (h : CutInv m k c) (h0 : 0 < k) (hm : ¬ ((m.getD (k - 1) 0).toNat = 46 ∨ (m.getD (k - 1) 0).toNat = 47)) : CutInv m (k - 1) c :=
  ⟨by have := h.1; omega, h.2.1, h.2.2.1, fun j h1 h2 => by
    by_cases e : j = k - 1
    · subst e; rw [← Bool.not_eq_true]; unfold isMk; rw [Bool.or_eq_true, decide_eq_true_iff, decide_eq_true_iff]; exact hm
    · exact h.2.2.2 j (by omega) h2⟩
theorem mk_not_dig {b : UInt8} (h : isMk b = true) : isDig b = false := by
  unfold isMk at h
  rw [Bool.or_eq_true, decide_eq_true_iff, decide_eq_true_iff] at h
  exact isDig_no (by omega)
theorem isNum_iff {s : List UInt8} : isNum s = true ↔ s.all isDig = true ∧ 0 < s.length := by unfold isNum; rw [Bool.and_eq_true, decide_eq_true_iff]
theorem numN_of {s : List UInt8} (h : isNum s = true) : numN s = readN s := by unfold numN; rw [if_pos (isNum_iff.1 h).1]
theorem sz_numN (s : List UInt8) : sz (numN s) ≤ s.length := by
  unfold numN
  split
  · rename_i h; exact sz_readN h
  · rw [sz_eq_zero.2 rfl]; omega
theorem tw_take (m : List UInt8) : tw m = m.take (tw m).length := by
  unfold tw
  exact (List.prefix_iff_eq_take.1 (List.takeWhile_prefix _))
section
variable {b : Bool} {m : List UInt8} {c : Nat} (hc : CutInv m 0 c)
include hc
theorem cut_tw (hn : isNum (m.take c) = true) : tw m = m.take c :=
  tw_eq (isNum_iff.1 hn).1 hc.2.1 (hc.2.2.1.imp id mk_not_dig)
theorem cut_len (hn : isNum (m.take c) = true) : (tw m).length = c := by rw [cut_tw hc hn, List.length_take]; have := hc.2.1; omega
theorem cut_pos (hn : isNum (m.take c) = true) : ¬ (tw m).length = 0 := by have := (isNum_iff.1 hn).2; rw [← cut_tw hc hn] at this; omega
theorem pz1 (hn : ¬ isNum (m.take c) = true) : parseS b m = (0, 4) := by
  by_cases h0 : (tw m).length = 0
  · exact parse_1 h0
  have ht := tw_take m
  have hlt : (tw m).length < c := by
    rcases Nat.lt_or_ge (tw m).length c with h | h
    · exact h
    · exfalso
      by_cases hc0 : c = 0
      · have he : tw m = m.take 0 := tw_eq rfl (Nat.zero_le _) (by
          rcases hc.2.2.1 with e | e
          · left; omega
          · right; rw [hc0] at e; exact mk_not_dig e)
        rw [he] at h0; exact h0 rfl
      apply hn
      rw [isNum_iff]
      constructor
      · have ha := tw_all m
        rw [ht] at ha
        rw [List.all_eq_true] at ha ⊢
        intro x hx
        exact ha x ((List.take_sublist_take_left (l := m) h).subset hx)
      · rw [List.length_take]; have := hc.2.1; omega
  have hm := hc.2.2.2 (tw m).length (Nat.zero_le _) hlt
  unfold isMk at hm
  rw [Bool.or_eq_false_iff, decide_eq_false_iff_not, decide_eq_false_iff_not] at hm
  have hcl := hc.2.1
  exact parse_3 h0 (by omega) (.inr (.inr hm))
theorem pz2 (hn : isNum (m.take c) = true) (he : c = m.length) : parseS b m = (ratOf b (numN (m.take c)) 1, 0) := by
  have := parse_2 (b := b) (cut_pos hc hn) (by rw [cut_len hc hn]; exact he)
  rwa [cut_tw hc hn, ← numN_of hn] at this
theorem pz3 (hn : isNum (m.take c) = true) (he : ¬ c = m.length) (ht : ¬ isNum (m.drop (c + 1)) = true) : parseS b m = (0, 4) := by
  have hl := cut_len hc hn
  refine parse_3 (cut_pos hc hn) (by rw [hl]; exact he) ?_
  rw [hl]
  by_cases h0 : (tw (m.drop (c + 1))).length = 0
  · exact .inl h0
  · refine .inr (.inl fun h => ht ?_)
    have h1 := tw_take (m.drop (c + 1))
    rw [h, List.take_length] at h1
    rw [isNum_iff]
    exact ⟨by rw [← h1]; exact tw_all _, by omega⟩
theorem tail_tw (ht : isNum (m.drop (c + 1)) = true) : tw (m.drop (c + 1)) = m.drop (c + 1) := tw_self (isNum_iff.1 ht).1
theorem pz_ok (hn : isNum (m.take c) = true) (he : ¬ c = m.length) (ht : isNum (m.drop (c + 1)) = true) :
    ¬ (((tw (m.drop ((tw m).length + 1))).length = 0) ∨ (((tw (m.drop ((tw m).length + 1))).length ≠ (m.drop ((tw m).length + 1)).length) ∨ ((m.getD (tw m).length 0).toNat ≠ 46 ∧ (m.getD (tw m).length 0).toNat ≠ 47))) := by
  rw [cut_len hc hn, tail_tw hc ht]
  have h1 := (isNum_iff.1 ht).2
  have h2 := hc.2.2.1.resolve_left he
  unfold isMk at h2
  rw [Bool.or_eq_true, decide_eq_true_iff, decide_eq_true_iff] at h2
  rintro (h | h | h)
  · omega
  · exact h rfl
  · omega
theorem pz4 (hn : isNum (m.take c) = true) (he : ¬ c = m.length) (ht : isNum (m.drop (c + 1)) = true) (hs : (m.getD c 0).toNat = 47) (hz : (digs (numN (m.drop (c + 1)))).length = 0) : parseS b m = (0, 3) := by
  have hl := cut_len hc hn
  exact parse_5 (cut_pos hc hn) (by rw [hl]; exact he) (pz_ok hc hn he ht) (by rw [hl]; omega) (by rw [hl, tail_tw hc ht, ← numN_of ht]; exact hz)
theorem pz5 (hn : isNum (m.take c) = true) (he : ¬ c = m.length) (ht : isNum (m.drop (c + 1)) = true) (hs : (m.getD c 0).toNat = 47) (hz : ¬ (digs (numN (m.drop (c + 1)))).length = 0) :
    parseS b m = (ratOf b (numN (m.take c)) (numN (m.drop (c + 1))), 0) := by
  have hl := cut_len hc hn
  have := parse_6 (b := b) (cut_pos hc hn) (by rw [hl]; exact he) (pz_ok hc hn he ht) (by rw [hl]; omega) (by rw [hl, tail_tw hc ht, ← numN_of ht]; exact hz)
  rwa [hl, tail_tw hc ht, cut_tw hc hn, ← numN_of ht, ← numN_of hn] at this
theorem pz6 (hn : isNum (m.take c) = true) (he : ¬ c = m.length) (ht : isNum (m.drop (c + 1)) = true) (hs : ¬ (m.getD c 0).toNat = 47) :
    parseS b m = (ratOf b (numN (m.take c) * 10 ^ (m.length - c - 1) + numN (m.drop (c + 1))) (10 ^ (m.length - c - 1)), 0) := by
  have hl := cut_len hc hn
  have h2 := hc.2.2.1.resolve_left he
  unfold isMk at h2
  rw [Bool.or_eq_true, decide_eq_true_iff, decide_eq_true_iff] at h2
  have := parse_4 (b := b) (cut_pos hc hn) (by rw [hl]; exact he) (pz_ok hc hn he ht) (by rw [hl]; omega)
  rw [hl, tail_tw hc ht, cut_tw hc hn, ← numN_of ht, ← numN_of hn, List.length_drop] at this
  rw [show m.length - c - 1 = m.length - (c + 1) by omega]
  exact this
end
theorem frm1 {b : Bool} {x : Nat} : (Fr.mk b (digs x) []).rat = ratOf b x 1 := by
  unfold Fr.rat; simp only [val_digs]; rfl
theorem frm2 {b : Bool} {x y : Nat} (h : y ≠ 0) : (Fr.mk b (digs x) (digs y)).rat = ratOf b x y := by
  unfold Fr.rat; simp only [val_digs]; rw [if_neg h]
end Go.Ear
namespace Go.Ear
theorem parseQ_bq {l : List UInt8} (h : l.length ≤ 200 ∨ 10000 < l.length) : bq (parseQ l).1 ≤ 10000 := by
  have h0 : bq (0 : Rat) ≤ 10000 := by rw [bq_zero]; decide
  rcases h with h | h
  · rw [pm (by omega)]
    have hm := mOf_len l
    generalize mOf l = m at *
    have t1 := tw_len m
    have a1 := sz_readN (tw_all m)
    have h10 := sz_small (n := 10) (by decide)
    have h1 := sz_one
    unfold parseS
    split
    · exact h0
    split
    · exact Nat.le_trans (bq_ratOf (B := 300) (by decide) (by omega) (by omega)) (by decide)
    have t2 := tw_len (m.drop ((tw m).length + 1))
    have a2 := sz_readN (tw_all (m.drop ((tw m).length + 1)))
    have t3 : (m.drop ((tw m).length + 1)).length ≤ m.length := by rw [List.length_drop]; omega
    have p1 := sz_pow 10 (tw (m.drop ((tw m).length + 1))).length
    have p2 := Nat.mul_le_mul (show (tw (m.drop ((tw m).length + 1))).length ≤ 200 by omega) h10
    have p3 := sz_mul (readN (tw m)) (10 ^ (tw (m.drop ((tw m).length + 1))).length)
    have p4 := sz_add (readN (tw m) * 10 ^ (tw (m.drop ((tw m).length + 1))).length) (readN (tw (m.drop ((tw m).length + 1))))
    split
    · exact h0
    split
    · exact Nat.le_trans (bq_ratOf (B := 2000) (Nat.pos_iff_ne_zero.1 (Nat.pow_pos (by decide))) (by omega) (by omega)) (by decide)
    split
    · exact h0
    · rename_i hz
      exact Nat.le_trans (bq_ratOf (B := 300) hz (by omega) (by omega)) (by decide)
  · rw [parse_0 h]; exact h0
end Go.Ear
