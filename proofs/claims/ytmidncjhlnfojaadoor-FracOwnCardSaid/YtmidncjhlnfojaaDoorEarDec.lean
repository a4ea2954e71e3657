/- About package frac: EarDec. -/
import Derived.Test.YtmidncjhlnfojaaDoorEarStr
set_option linter.all false
namespace Go.Ear
open Lib
def dig10 (d : Nat) : UInt8 := UInt8.ofNat (48 + d)
theorem decT_small {u : Nat} (h : u < 10) : decT u = [dig10 u] := by unfold decT; rw [decDigits, dif_pos h]; rfl
theorem decT_big {u : Nat} (h : ¬ u < 10) : decT u = decT (u / 10) ++ [dig10 (u % 10)] := by unfold decT; rw [decDigits, dif_neg h]; rfl
def fixw : Nat → Nat → List UInt8
  | 0, _ => []
  | k + 1, u => dig10 (u / 10 ^ k % 10) :: fixw k u
theorem fixw_length : ∀ (k u : Nat), (fixw k u).length = k
  | 0, _ => rfl
  | k + 1, u => by simp [fixw, fixw_length k u]
theorem fixw_mod : ∀ (k m u : Nat), k ≤ m → fixw k (u % 10 ^ m) = fixw k u
  | 0, _, _, _ => rfl
  | k + 1, m, u, h => by
    simp only [fixw]
    rw [fixw_mod k m u (by omega)]
    congr 2
    have : 10 ^ m = 10 ^ k * (10 * 10 ^ (m - k - 1)) := by rw [← Nat.pow_succ', ← Nat.pow_add]; congr 1; omega
    rw [this, Nat.mod_mul_right_div_self, Nat.mod_mul_right_mod]
theorem decT_split : ∀ (k u : Nat), u / 10 ^ k ≠ 0 → decT u = decT (u / 10 ^ k) ++ fixw k u
  | 0, u, _ => by simp [fixw]
  | k + 1, u, h => by
    have e : u / 10 ^ (k + 1) = u / 10 ^ k / 10 := by rw [Nat.pow_succ, Nat.div_div_eq_div_mul]
    rw [e] at h ⊢
    have hb : ¬ u / 10 ^ k < 10 := fun hl => h (Nat.div_eq_of_lt hl)
    rw [decT_split k u (by omega), decT_big hb]
    simp [fixw]
theorem decT_pos (u : Nat) : 1 ≤ (decT u).length := by
  by_cases h : u < 10
  · rw [decT_small h]; simp
  · rw [decT_big h]; simp
theorem fixw_pad : ∀ (k r : Nat), r < 10 ^ (k + 1) → fixw (k + 1) r = List.replicate (k + 1 - (decT r).length) 48 ++ decT r
  | 0, r, h => by
    have h : r < 10 := by simpa using h
    simp [fixw, decT_small h, Nat.mod_eq_of_lt h]
  | k + 1, r, h => by
    by_cases h0 : r / 10 ^ (k + 1) = 0
    · have hlt : r < 10 ^ (k + 1) := by
        rcases Nat.lt_or_ge r (10 ^ (k + 1)) with h' | h'
        · exact h'
        · have := Nat.div_pos h' (Nat.pow_pos (by decide)); omega
      have ih := fixw_pad k r hlt
      have hl : (decT r).length ≤ k + 1 := by
        have := congrArg List.length ih
        rw [fixw_length] at this
        simp at this; omega
      rw [show fixw (k + 1 + 1) r = dig10 (r / 10 ^ (k + 1) % 10) :: fixw (k + 1) r from rfl, ih, h0]
      rw [show k + 1 + 1 - (decT r).length = (k + 1 - (decT r).length) + 1 by omega, List.replicate_succ]
      rfl
    · have hd : r / 10 ^ (k + 1) < 10 := by
        rw [Nat.pow_succ] at h
        exact Nat.div_lt_of_lt_mul h
      have hs := decT_split (k + 1) r h0
      have hl : (decT r).length = k + 1 + 1 := by rw [hs, decT_small hd]; simp [fixw_length]
      rw [hl, Nat.sub_self, List.replicate_zero, List.nil_append, hs, decT_small hd]
      simp [fixw, Nat.mod_eq_of_lt hd]
def catR (l : List (List UInt8)) : List UInt8 := l.foldl (fun acc s => s ++ acc) []
theorem catR_snoc (l : List (List UInt8)) (s : List UInt8) : catR (l ++ [s]) = s ++ catR l := by simp [catR]
theorem decT_step {a : Nat} {l : List (List UInt8)} {o : List UInt8} (h : o = (if a = 0 then [] else decT a) ++ catR l) (ha : a ≠ 0) {s : List UInt8}
    (hs : s = if a / 1000000000 = 0 then decT (a % 1000000000) else List.replicate (9 - (decT (a % 1000000000)).length) 48 ++ decT (a % 1000000000)) :
    o = (if a / 1000000000 = 0 then [] else decT (a / 1000000000)) ++ catR (l ++ [s]) := by
  rw [h, if_neg ha, catR_snoc, ← List.append_assoc]
  congr 1
  subst hs
  have e9 : (1000000000 : Nat) = 10 ^ 9 := by decide
  by_cases h0 : a / 1000000000 = 0
  · rw [if_pos h0, if_pos h0]
    have : a < 1000000000 := by
      rcases Nat.lt_or_ge a 1000000000 with h' | h'
      · exact h'
      · have := Nat.div_pos h' (by decide); omega
    rw [Nat.mod_eq_of_lt this]; rfl
  · rw [if_neg h0, if_neg h0]
    rw [e9] at h0 ⊢
    rw [decT_split 9 a h0, ← fixw_pad 8 (a % 10 ^ 9) (Nat.mod_lt _ (by decide)), fixw_mod 9 9 a (Nat.le_refl _)]
theorem decT_len (a : Nat) : (decT a).length ≤ 10 * sz a + 1 := by
  have key : ∀ (k u : Nat), u < 10 ^ k → (decT u).length ≤ k + 1 := by
    intro k
    induction k with
    | zero => intro u h; have : u = 0 := by simpa using h
              subst this; rw [decT_small (by decide)]; simp
    | succ k ih =>
      intro u h
      by_cases h1 : u < 10
      · rw [decT_small h1]; simp
      · rw [decT_big h1]
        have := ih (u / 10) (by rw [Nat.pow_succ] at h; exact Nat.div_lt_of_lt_mul (by rw [Nat.mul_comm]; exact h))
        simp; omega
  refine key _ _ (Nat.lt_of_lt_of_le (lt_sz a) ?_)
  rw [Nat.pow_mul]
  exact Nat.pow_le_pow_left (by decide) _
theorem catR_split (l : List (List UInt8)) (k : Nat) : catR l = catR (l.drop k) ++ catR (l.take k) := by
  have key : ∀ (a : List (List UInt8)) (acc : List UInt8), a.foldl (fun acc s => s ++ acc) acc = catR a ++ acc := by
    intro a
    induction a with
    | nil => intro acc; simp [catR]
    | cons x a ih => intro acc; simp only [List.foldl_cons, catR]; rw [ih, ih]; simp
  conv => lhs; rw [← List.take_append_drop k l]
  unfold catR
  rw [List.foldl_append, key]
  rfl
theorem catR_drop {l : List (List UInt8)} {k : Nat} (hk : 0 < k) (hl : k ≤ l.length) : catR (l.drop (k - 1)) = catR (l.drop k) ++ l.getD (k - 1) [] := by
  have h1 : k - 1 < l.length := by omega
  rw [List.drop_eq_getElem_cons h1, show k - 1 + 1 = k by omega]
  have := catR_split (l[k - 1] :: l.drop k) 1
  rw [this, List.getD_eq_getElem?_getD, List.getElem?_eq_getElem h1]
  simp [catR]
theorem catR_len (l : List (List UInt8)) (k : Nat) : (catR (l.drop k)).length ≤ (catR l).length := by
  rw [catR_split l k]; simp
end Go.Ear
namespace Go.Ear
theorem strv {a b : List UInt8} (h : a = b) : Value.string (S a) = Value.string (S b) := by rw [h]
def isDig (b : UInt8) : Bool := 48 ≤ b.toNat && b.toNat ≤ 57
def readN (l : List UInt8) : Nat := l.foldl (fun n c => n * 10 + (c.toNat - 48)) 0
def tw (l : List UInt8) : List UInt8 := l.takeWhile isDig
theorem readN_snoc (l : List UInt8) (c : UInt8) : readN (l ++ [c]) = readN l * 10 + (c.toNat - 48) := by simp [readN]
theorem readN_lt : ∀ (l : List UInt8), l.all isDig = true → readN l < 10 ^ l.length := by
  intro l
  generalize hn : l.length = n
  induction n generalizing l with
  | zero => intro _; rw [List.eq_nil_of_length_eq_zero hn]; decide
  | succ n ih0 =>
    obtain ⟨l, c, rfl⟩ : ∃ m c, l = m ++ [c] := ⟨l.dropLast, l.getLast (by intro e; rw [e] at hn; simp at hn), (List.dropLast_concat_getLast _).symm⟩
    have hl : l.length = n := by simpa using hn
    have ih := ih0 l hl
    subst hl
    clear ih0 hn
    intro h
    simp only [List.all_append, List.all_cons, List.all_nil, Bool.and_true, Bool.and_eq_true] at h
    have := ih h.1
    have hc := h.2
    simp only [isDig, Bool.and_eq_true, decide_eq_true_eq] at hc
    rw [readN_snoc, Nat.pow_succ]
    omega
theorem sz_readN {l : List UInt8} (h : l.all isDig = true) : sz (readN l) ≤ l.length := by
  have h1 := readN_lt l h
  exact sz_le (Nat.lt_of_lt_of_le h1 (Nat.pow_le_pow_left (by decide) _))
theorem tw_eq {l : List UInt8} {k : Nat} (h : (l.take k).all isDig = true) (hk : k ≤ l.length) (he : k = l.length ∨ isDig (l.getD k 0) = false) : tw l = l.take k := by
  induction l generalizing k with
  | nil => simp [tw]
  | cons x l ih =>
    cases k with
    | zero =>
      rcases he with he | he
      · simp at he
      · simp at he; simp [tw, he]
    | succ k =>
      simp only [List.take_succ_cons, List.all_cons, Bool.and_eq_true] at h
      have := ih h.2 (by simpa using hk) (he.imp (fun e => by simpa using e) (fun e => e))
      unfold tw at this ⊢
      rw [List.takeWhile_cons, if_pos h.1, this, List.take_succ_cons]
theorem tw_all (l : List UInt8) : (tw l).all isDig = true := by
  unfold tw
  induction l with
  | nil => rfl
  | cons x l ih =>
    rw [List.takeWhile_cons]
    split
    · rename_i h; simp [h, ih]
    · rfl
theorem tw_len (l : List UInt8) : (tw l).length ≤ l.length := List.Sublist.length_le (List.takeWhile_sublist _)
theorem all_take_succ {l : List UInt8} {k : Nat} (h : (l.take k).all isDig = true) (hk : k < l.length) (hd : isDig (l.getD k 0) = true) : (l.take (k + 1)).all isDig = true := by
  rw [take_snoc 0 hk, List.all_append, h]; simpa using hd
theorem readN_take {l : List UInt8} {k : Nat} (hk : k < l.length) : readN (l.take (k + 1)) = readN (l.take k) * 10 + ((l.getD k 0).toNat - 48) := by
  rw [take_snoc 0 hk, readN_snoc]
theorem isDig_of {b : UInt8} (h1 : 48 ≤ b.toNat) (h2 : b.toNat ≤ 57) : isDig b = true := by simp [isDig, h1, h2]
theorem isDig_no {b : UInt8} (h : b.toNat < 48 ∨ 57 < b.toNat) : isDig b = false := by
  rw [← Bool.not_eq_true]; simp [isDig]; omega
def textQ (q : Rat) : List UInt8 := (if q.num < 0 then [45] else []) ++ (decT q.num.natAbs ++ if q.den = 1 then [] else 47 :: decT q.den)
def padT (places : Nat) (s : List UInt8) : List UInt8 := List.replicate (places + 1 - s.length) 48 ++ s
def dotT (places : Nat) (s : List UInt8) : List UInt8 := if places = 0 then s else s.take (s.length - places) ++ 46 :: s.drop (s.length - places)
def decN (q : Rat) (places : Nat) : Nat := (q.num.natAbs * 10 ^ places * 2 + q.den) / (q.den * 2)
def decimalQ (q : Rat) (places : Int) : List UInt8 := if places < 0 ∨ places > 1000 then [] else
  (if q.num < 0 ∧ decN q places.toNat ≠ 0 then [45] else []) ++ dotT places.toNat (padT places.toNat (decT (decN q places.toNat)))
def decimalE (places : Int) : Int := if places < 0 ∨ places > 1000 then 2 else 0
def parseS (neg : Bool) (l : List UInt8) : Rat × Int :=
  if (tw l).length = 0 then (0, 4) else if (tw l).length = l.length then (ratOf neg (readN (tw l)) 1, 0) else
  if ((tw (l.drop ((tw l).length + 1))).length = 0) ∨ (((tw (l.drop ((tw l).length + 1))).length ≠ (l.drop ((tw l).length + 1)).length) ∨ ((l.getD (tw l).length 0).toNat ≠ 46 ∧ (l.getD (tw l).length 0).toNat ≠ 47)) then (0, 4) else
  if (l.getD (tw l).length 0).toNat = 46 then (ratOf neg (readN (tw l) * 10 ^ (tw (l.drop ((tw l).length + 1))).length + readN (tw (l.drop ((tw l).length + 1)))) (10 ^ (tw (l.drop ((tw l).length + 1))).length), 0) else
  if readN (tw (l.drop ((tw l).length + 1))) = 0 then (0, 3) else (ratOf neg (readN (tw l)) (readN (tw (l.drop ((tw l).length + 1)))), 0)
def isNeg (l : List UInt8) : Bool := decide (0 < l.length) && decide ((l.getD 0 0).toNat = 45)
def parseQ (l : List UInt8) : Rat × Int := if 10000 < l.length then (0, 5) else parseS (isNeg l) (if isNeg l then l.drop 1 else l)
section
variable {b : Bool} {l m : List UInt8}
theorem parse_0 (h : 10000 < l.length) : parseQ l = (0, 5) := by unfold parseQ; rw [if_pos h]
theorem parse_m (h : ¬ 10000 < l.length) (hb : isNeg l = b) (hm : (if b = true then l.drop 1 else l) = m) : parseQ l = parseS b m := by unfold parseQ; rw [if_neg h, hb, hm]
theorem parse_1 (h : (tw m).length = 0) : parseS b m = (0, 4) := by unfold parseS; rw [if_pos h]
theorem parse_2 (h : ¬ (tw m).length = 0) (h2 : (tw m).length = m.length) : parseS b m = (ratOf b (readN (tw m)) 1, 0) := by unfold parseS; rw [if_neg h, if_pos h2]
theorem parse_3 (h : ¬ (tw m).length = 0) (h2 : ¬ (tw m).length = m.length) (h3 : ((tw (m.drop ((tw m).length + 1))).length = 0) ∨ (((tw (m.drop ((tw m).length + 1))).length ≠ (m.drop ((tw m).length + 1)).length) ∨ ((m.getD (tw m).length 0).toNat ≠ 46 ∧ (m.getD (tw m).length 0).toNat ≠ 47))) :
    parseS b m = (0, 4) := by unfold parseS; rw [if_neg h, if_neg h2, if_pos h3]
theorem parse_4 (h : ¬ (tw m).length = 0) (h2 : ¬ (tw m).length = m.length) (h3 : ¬ (((tw (m.drop ((tw m).length + 1))).length = 0) ∨ (((tw (m.drop ((tw m).length + 1))).length ≠ (m.drop ((tw m).length + 1)).length) ∨ ((m.getD (tw m).length 0).toNat ≠ 46 ∧ (m.getD (tw m).length 0).toNat ≠ 47))))
    (h4 : (m.getD (tw m).length 0).toNat = 46) : parseS b m = (ratOf b (readN (tw m) * 10 ^ (tw (m.drop ((tw m).length + 1))).length + readN (tw (m.drop ((tw m).length + 1)))) (10 ^ (tw (m.drop ((tw m).length + 1))).length), 0) := by
  unfold parseS; rw [if_neg h, if_neg h2, if_neg h3, if_pos h4]
theorem parse_5 (h : ¬ (tw m).length = 0) (h2 : ¬ (tw m).length = m.length) (h3 : ¬ (((tw (m.drop ((tw m).length + 1))).length = 0) ∨ (((tw (m.drop ((tw m).length + 1))).length ≠ (m.drop ((tw m).length + 1)).length) ∨ ((m.getD (tw m).length 0).toNat ≠ 46 ∧ (m.getD (tw m).length 0).toNat ≠ 47))))
    (h4 : ¬ (m.getD (tw m).length 0).toNat = 46) (h5 : (digs (readN (tw (m.drop ((tw m).length + 1))))).length = 0) : parseS b m = (0, 3) := by
  unfold parseS; rw [if_neg h, if_neg h2, if_neg h3, if_neg h4, if_pos (len_zero.1 h5)]
theorem parse_6 (h : ¬ (tw m).length = 0) (h2 : ¬ (tw m).length = m.length) (h3 : ¬ (((tw (m.drop ((tw m).length + 1))).length = 0) ∨ (((tw (m.drop ((tw m).length + 1))).length ≠ (m.drop ((tw m).length + 1)).length) ∨ ((m.getD (tw m).length 0).toNat ≠ 46 ∧ (m.getD (tw m).length 0).toNat ≠ 47))))
    (h4 : ¬ (m.getD (tw m).length 0).toNat = 46) (h5 : ¬ (digs (readN (tw (m.drop ((tw m).length + 1))))).length = 0) : parseS b m = (ratOf b (readN (tw m)) (readN (tw (m.drop ((tw m).length + 1)))), 0) := by
  unfold parseS; rw [if_neg h, if_neg h2, if_neg h3, if_neg h4, if_neg (fun e => h5 (len_zero.2 e))]
end
theorem isNeg_t {l : List UInt8} (h : (0 < l.length) ∧ ((l.getD 0 0).toNat = 45)) : isNeg l = true := by unfold isNeg; rw [decide_eq_true h.1, decide_eq_true h.2]; rfl
theorem isNeg_f {l : List UInt8} (h : ¬ ((0 < l.length) ∧ ((l.getD 0 0).toNat = 45))) : ¬ isNeg l = true := by
  unfold isNeg; rw [Bool.and_eq_true, decide_eq_true_eq, decide_eq_true_eq]; exact h
theorem Kn.fst {h : PH} {v : Value} {p : Rat × Int} {q : Rat} {e : Int} (hp : p = (q, e)) (u : Kn h v q) : Kn h v p.1 := by subst hp; exact u
end Go.Ear
