/- About package frac: EarText2. -/
import Derived.Test.YtmidncjhlnfojaaDoorEarText
set_option linter.all false
namespace Go.Ear
theorem dig10_is {d : Nat} (h : d < 10) : isDig (dig10 d) = true := by
  unfold isDig dig10
  rw [UInt8.toNat_ofNat_of_lt' (by show _ < 256; omega)]
  simp; omega
theorem dig10_nat {d : Nat} (h : d < 10) : (dig10 d).toNat = 48 + d := by
  unfold dig10
  rw [UInt8.toNat_ofNat_of_lt' (by show _ < 256; omega)]
theorem decT_all (n : Nat) : (decT n).all isDig = true := by
  induction n using Nat.strongRecOn with
  | _ n ih =>
    by_cases h : n < 10
    · rw [decT_small h]; simp [dig10_is h]
    · rw [decT_big h, List.all_append, ih _ (by omega)]; simp [dig10_is (show n % 10 < 10 by omega)]
theorem readN_decT (n : Nat) : readN (decT n) = n := by
  induction n using Nat.strongRecOn with
  | _ n ih =>
    by_cases h : n < 10
    · rw [decT_small h]; show 0 * 10 + ((dig10 n).toNat - 48) = n; rw [dig10_nat h]; omega
    · rw [decT_big h, readN_snoc, ih _ (by omega), dig10_nat (show n % 10 < 10 by omega)]; omega
theorem tw_app {d r : List UInt8} (h : d.all isDig = true) (hr : ∀ x ∈ r.head?, isDig x = false) : tw (d ++ r) = d := by
  induction d with
  | nil =>
    cases r with
    | nil => rfl
    | cons x r => unfold tw; rw [List.nil_append, List.takeWhile_cons, if_neg (by rw [hr x rfl]; decide)]
  | cons y d ih =>
    rw [List.all_cons, Bool.and_eq_true] at h
    have := ih h.2
    unfold tw at this ⊢
    rw [List.cons_append, List.takeWhile_cons, if_pos h.1, this]
theorem tw_self {d : List UInt8} (h : d.all isDig = true) : tw d = d := by
  have := tw_app (r := []) h (fun x hx => by cases hx)
  rwa [List.append_nil] at this
theorem decT_head (n : Nat) (r : List UInt8) : ¬ ((decT n ++ r).getD 0 0).toNat = 45 := by
  have h1 := decT_pos n
  have h2 := decT_all n
  cases e : decT n with
  | nil => rw [e] at h1; simp at h1
  | cons x l =>
    rw [e, List.all_cons, Bool.and_eq_true] at h2
    have := h2.1
    simp only [isDig, Bool.and_eq_true, decide_eq_true_eq] at this
    show ¬ x.toNat = 45
    omega
theorem isNeg_dig (n : Nat) (r : List UInt8) : isNeg (decT n ++ r) = false := by
  unfold isNeg; rw [decide_eq_false (decT_head n r), Bool.and_false]
theorem isNeg_min (l : List UInt8) : isNeg (45 :: l) = true := by
  unfold isNeg; rw [decide_eq_true (by simp), decide_eq_true (by rfl)]; rfl
theorem parseS_int (b : Bool) {m : List UInt8} (h : m.all isDig = true) (h1 : m ≠ []) : parseS b m = (ratOf b (readN m) 1, 0) := by
  have e := tw_self h
  have hl : m.length ≠ 0 := fun e => h1 (List.eq_nil_of_length_eq_zero e)
  have := parse_2 (b := b) (m := m) (by rw [e]; exact hl) (by rw [e])
  rwa [e] at this
theorem drop_mark (d r : List UInt8) (c : UInt8) : (d ++ c :: r).drop (d.length + 1) = r := by
  rw [List.drop_append, List.drop_of_length_le (by omega), List.nil_append, show d.length + 1 - d.length = 1 by omega]; rfl
theorem getD_mark (d r : List UInt8) (c : UInt8) : (d ++ c :: r).getD d.length 0 = c := by
  rw [List.getD_eq_getElem?_getD, List.getElem?_append_right (Nat.le_refl _), Nat.sub_self]; rfl
theorem parseS_quo (b : Bool) {d r : List UInt8} (hd : d.all isDig = true) (hr : r.all isDig = true) (h1 : d ≠ []) (h2 : readN r ≠ 0) : parseS b (d ++ 47 :: r) = (ratOf b (readN d) (readN r), 0) := by
  have e : tw (d ++ 47 :: r) = d := tw_app hd (fun x hx => by simp at hx; subst hx; rfl)
  have ed := drop_mark d r 47
  have eg := getD_mark d r 47
  have er := tw_self hr
  have hr0 : r ≠ [] := by rintro rfl; exact h2 rfl
  have := parse_6 (b := b) (m := d ++ 47 :: r) (by rw [e]; exact fun e => h1 (List.eq_nil_of_length_eq_zero e)) (by rw [e]; simp)
    (by rw [e, ed, er, eg]; rintro (h | h | h)
        · exact hr0 (List.eq_nil_of_length_eq_zero h)
        · exact h rfl
        · exact h.2 rfl)
    (by rw [e, eg]; decide) (by rw [e, ed, er]; exact fun h => h2 (len_zero.1 h))
  rw [e, ed, er] at this
  exact this
theorem parseS_dec (b : Bool) {d r : List UInt8} (hd : d.all isDig = true) (hr : r.all isDig = true) (h1 : d ≠ []) (hr0 : r ≠ []) :
    parseS b (d ++ 46 :: r) = (ratOf b (readN d * 10 ^ r.length + readN r) (10 ^ r.length), 0) := by
  have e : tw (d ++ 46 :: r) = d := tw_app hd (fun x hx => by simp at hx; subst hx; rfl)
  have ed := drop_mark d r 46
  have eg := getD_mark d r 46
  have er := tw_self hr
  have := parse_4 (b := b) (m := d ++ 46 :: r) (by rw [e]; exact fun e => h1 (List.eq_nil_of_length_eq_zero e)) (by rw [e]; simp)
    (by rw [e, ed, er, eg]; rintro (h | h | h)
        · exact hr0 (List.eq_nil_of_length_eq_zero h)
        · exact h rfl
        · exact h.1 rfl)
    (by rw [e, eg]; decide)
  rw [e, ed, er] at this
  exact this
theorem decT_ne (n : Nat) : decT n ≠ [] := fun e => by have := decT_pos n; rw [e] at this; simp at this
theorem parse_text {q : Rat} (h : (textQ q).length ≤ 10000) : parseQ (textQ q) = (q, 0) := by
  have key : ∀ b : Bool, parseS b (decT q.num.natAbs ++ if q.den = 1 then [] else 47 :: decT q.den) = (ratOf b q.num.natAbs q.den, 0) := by
    intro b
    by_cases hd : q.den = 1
    · rw [if_pos hd, List.append_nil, parseS_int b (decT_all _) (decT_ne _), readN_decT, hd]
    · rw [if_neg hd, parseS_quo b (decT_all _) (decT_all _) (decT_ne _) (by rw [readN_decT]; exact q.den_nz), readN_decT, readN_decT]
  have hs := ratOf_self q
  by_cases hn : q.num < 0
  · have e : textQ q = 45 :: (decT q.num.natAbs ++ if q.den = 1 then [] else 47 :: decT q.den) := by unfold textQ; rw [if_pos hn]; rfl
    rw [parse_m (b := true) (m := decT q.num.natAbs ++ if q.den = 1 then [] else 47 :: decT q.den) (by omega) (by rw [e]; exact isNeg_min _) (by rw [if_pos rfl, e]; rfl), key]
    rw [decide_eq_true hn] at hs; rw [hs]
  · have e : textQ q = decT q.num.natAbs ++ if q.den = 1 then [] else 47 :: decT q.den := by unfold textQ; rw [if_neg hn]; rfl
    rw [parse_m (b := false) (m := textQ q) (by omega) (by rw [e]; exact isNeg_dig _ _) (by rw [if_neg (by decide)]), e, key]
    rw [decide_eq_false hn] at hs; rw [hs]
theorem textQ_len (q : Rat) : (textQ q).length ≤ 20 * bq q + 4 := by
  have h1 := decT_len q.num.natAbs
  have h2 := decT_len q.den
  have h3 := bq_num q
  have h4 := bq_den q
  unfold textQ
  rw [List.length_append, List.length_append]
  split <;> split <;> simp <;> omega
end Go.Ear
