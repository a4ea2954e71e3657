/- About package frac: EarRef. -/
import Derived.Test.YtmidncjhlnfojaaDoorEarApi
set_option linter.all false
namespace Go.Ear
def rpU : Rp Nat where
  k := 1
  R := fun _ cs x => cs = [.int .u32 ((x : Nat) : Int)] ∧ x < 4294967296
  len := fun e => by rw [e.1]; rfl
  one := fun e c hc => by rw [e.1] at hc; simp at hc; subst hc; rfl
  mono := fun e _ => e
theorem LU.toU {h : PH} {v : Value} {l : List Nat} (u : LR rpU h v l) : U h v l := by
  obtain ⟨css, a, b⟩ := u
  have key : ∀ (css : List (List Value)) (l : List Nat), Rows rpU h css l → css = cellsU l ∧ Fit l := by
    intro css
    induction css with
    | nil => intro l r; cases l with
      | nil => exact ⟨rfl, fun _ hx => by cases hx⟩
      | cons _ _ => exact r.elim
    | cons c css ih => intro l r; cases l with
      | nil => exact r.elim
      | cons x l =>
        obtain ⟨e, f⟩ := ih l r.2
        refine ⟨by rw [e, r.1.1]; rfl, fun y hy => ?_⟩
        rcases List.mem_cons.1 hy with rfl | hy
        · exact r.1.2
        · exact f y hy
  obtain ⟨e, f⟩ := key css l b
  subst e
  exact ⟨f, a⟩
theorem plus_step {out a b : List Nat} {k c : Nat} (hl : out.length = k) (hv : val out + c * B32 ^ k = val (a.take k) + val (b.take k)) :
    val (out ++ [(c + a.getD k 0 + b.getD k 0) % 4294967296]) + (c + a.getD k 0 + b.getD k 0) / 2 ^ 32 * B32 ^ (k + 1) = val (a.take (k + 1)) + val (b.take (k + 1)) := by
  have := add_step (out := out ++ [0]) (a := a) (b := b) (k := k) (c := c) (by simp; omega) (by rw [← hl, List.take_left']; rw [hl]; exact hv; rfl)
  rw [← this]
  congr 2
  rw [List.take_of_length_le (by simp; omega)]
  subst hl
  simp [List.set_append_right]
theorem plus_close {out : List Nat} {a b k : Nat} (h1 : (digs a).length ≤ k) (h2 : (digs b).length ≤ k) (hv : val out + 0 * B32 ^ k = val ((digs a).take k) + val ((digs b).take k)) : val out = a + b := by
  rw [val_take_all h1, val_take_all h2, val_digs, val_digs] at hv; omega
theorem minus_step1 {out a b : List Nat} {k br : Nat} (hl : out.length = k) (hb : b.getD k 0 < 4294967296) (hlt : a.getD k 0 < br + b.getD k 0) (hk : k < a.length)
    (hv : val out + val (b.take k) = val (a.take k) + br * B32 ^ k) (h1 : br ≤ 1) :
    val (out ++ [(a.getD k 0 + 4294967296) - (br + b.getD k 0)]) + val (b.take (k + 1)) = val (a.take (k + 1)) + 1 * B32 ^ (k + 1) := by
  have hd : (out ++ a.drop k).drop k = a.drop k := by rw [← hl, List.drop_left' rfl]
  have ht : (out ++ a.drop k).take k = out := by rw [← hl, List.take_left' rfl]
  have hg : (out ++ a.drop k).getD k 0 = a.getD k 0 := by
    subst hl
    simp [List.getD_eq_getElem?_getD, List.getElem?_append_right]
  have := sub_step1 (out := out ++ a.drop k) (a := a) (b := b) (k := k) (br := br) (by simp; omega) hb (by rw [hg]; exact hlt) hd (by rw [ht]; exact hv) h1
  rw [← this, hg]
  congr 2
  rw [take_snoc 0 (by simp; omega), getD_set_self (by simp; omega), take_set_self, ht]
theorem minus_step2 {out a b : List Nat} {k br : Nat} (hl : out.length = k) (hb : b.getD k 0 < 4294967296) (hge : ¬ a.getD k 0 < br + b.getD k 0) (hk : k < a.length)
    (hv : val out + val (b.take k) = val (a.take k) + br * B32 ^ k) :
    val (out ++ [a.getD k 0 - (br + b.getD k 0)]) + val (b.take (k + 1)) = val (a.take (k + 1)) + 0 * B32 ^ (k + 1) := by
  have hd : (out ++ a.drop k).drop k = a.drop k := by rw [← hl, List.drop_left' rfl]
  have ht : (out ++ a.drop k).take k = out := by rw [← hl, List.take_left' rfl]
  have hg : (out ++ a.drop k).getD k 0 = a.getD k 0 := by
    subst hl
    simp [List.getD_eq_getElem?_getD, List.getElem?_append_right]
  have := sub_step2 (out := out ++ a.drop k) (a := a) (b := b) (k := k) (br := br) (by simp; omega) hb (by rw [hg]; exact hge) hd (by rw [ht]; exact hv)
  rw [← this, hg]
  congr 2
  rw [take_snoc 0 (by simp; omega), getD_set_self (by simp; omega), take_set_self, ht]
theorem minus_close {out : List Nat} {a b k br : Nat} (hk : k = (digs a).length) (hl : out.length = k) (hf : Fit out) (hlb : (digs b).length ≤ (digs a).length) (hba : b ≤ a)
    (hv : val out + val ((digs b).take k) = val ((digs a).take k) + br * B32 ^ k) : val out = a - b :=
  sub_close hk (by omega) hf hlb hba (by rw [List.take_of_length_le (by omega)]; exact hv)
theorem half_step {out a : List Nat} {k c : Nat} (hk : 0 < k) (h1 : k ≤ out.length) (h2 : k ≤ a.length) (hc : c < 2) (hb : a.getD (k - 1) 0 < 4294967296) (hv : val (out.drop k) * 2 + c = val (a.drop k)) :
    val ((out.set (k - 1) (a.getD (k - 1) 0 / 2 ^ 1 ||| c * 2 ^ 31)).drop (k - 1)) * 2 + (a.getD (k - 1) 0 &&& 1) = val (a.drop (k - 1)) := by
  have e : (a.getD (k - 1) 0 / 2 ^ 1 ||| c * 2 ^ 31) = (c * 2 ^ 32 + a.getD (k - 1) 0) / 2 := by
    rw [Nat.or_comm, Nat.mul_comm, ← Nat.two_pow_add_eq_or_of_lt (i := 31) (by have : (2:Nat)^31 = 2147483648 := rfl; omega)]
    have e1 : (2:Nat)^31 = 2147483648 := rfl
    have e2 : (2:Nat)^32 = 4294967296 := rfl
    rw [e1, e2]; omega
  have e3 : (a.getD (k - 1) 0 &&& 1) = (c * 2 ^ 32 + a.getD (k - 1) 0) % 2 := by
    rw [Nat.and_one_is_mod]
    have e2 : (2:Nat)^32 = 4294967296 := rfl
    rw [e2]; omega
  rw [e, e3]
  exact over_step hk h1 h2 hv
theorem half_lt {x c : Nat} (hx : x < 4294967296) (hc : c < 2) : (x / 2 ^ 1 ||| c * 2 ^ 31) < 4294967296 := by
  have e : (4294967296 : Nat) = 2 ^ 32 := rfl
  rw [e]
  refine Nat.or_lt_two_pow ?_ ?_
  · have e2 : (2:Nat)^32 = 4294967296 := rfl
    rw [e2]; omega
  · have e1 : (2:Nat)^31 = 2147483648 := rfl
    have e2 : (2:Nat)^32 = 4294967296 := rfl
    rw [e1, e2]; omega
theorem and1_lt (x : Nat) : (x &&& 1) < 2 := by rw [Nat.and_one_is_mod]; omega
theorem digs_even {a : Nat} : (digs a).getD 0 0 % 2 = a % 2 := by
  by_cases h : a = 0
  · subst h; rw [digs_zero]; rfl
  · rw [digs_pos h]; simp only [List.getD_cons_zero, B32_eq]; omega
theorem bits_step {x : Nat} (h : 0 < x) : bitlen x = bitlen (x / 2 ^ 1) + 1 := bitlen_pos (by omega)
theorem Fit.snoc {l : List Nat} {x : Nat} (f : Fit l) (h : x < 4294967296) : Fit (l ++ [x]) := fun y hy => by
  rcases List.mem_append.1 hy with hy | hy
  · exact f y hy
  · simp at hy; subst hy; exact h
theorem one_eq {a : Nat} : (decide ((digs a).length = 1) && decide ((digs a).getD 0 0 = 1)) = decide (a = 1) := by
  rw [Bool.eq_iff_iff]
  simp only [Bool.and_eq_true, decide_eq_true_eq]
  constructor
  · intro ⟨h1, h2⟩
    have h0 : a ≠ 0 := by rintro rfl; rw [digs_zero] at h1; simp at h1
    rw [digs_pos h0] at h1 h2
    simp only [List.length_cons] at h1
    simp only [List.getD_cons_zero, B32_eq] at h2
    have h3 : a / B32 = 0 := len_zero.1 (by omega)
    rw [B32_eq] at h3
    omega
  · rintro rfl
    rw [digs_pos (by decide)]
    simp [B32, digs_zero]
theorem digs_lit1 : digs 1 = [1] := by rw [digs_pos (by decide)]; simp [B32, digs_zero]
theorem u64_neg {n : Int} (h : n < 0) (h2 : -9223372036854775808 ≤ n) : IntKind.u64.wrap n = n + 18446744073709551616 := by simp [IntKind.wrap, IntKind.bits, IntKind.signed]; omega
theorem u64_neg2 {n : Int} (h : n < 0) (h2 : -9223372036854775808 ≤ n) : IntKind.u64.wrap (0 - (n + 18446744073709551616)) = ((n.natAbs : Nat) : Int) := by simp [IntKind.wrap, IntKind.bits, IntKind.signed]; omega
theorem bits_end {m x a : Nat} (hm : m + bitlen x = bitlen a) (h : ¬ 0 < x) : m = bitlen a := by
  have h0 : x = 0 := by omega
  rw [h0, bitlen_zero] at hm; omega
theorem val_one (r : Nat) : val [r] = r := by simp [val]
theorem lt_bitlen (a : Nat) : a < 2 ^ bitlen a := by
  induction a using Nat.strongRecOn with
  | _ a ih =>
    by_cases h : a = 0
    · subst h; rw [bitlen_zero]; decide
    · have := ih (a / 2) (by omega)
      rw [bitlen_pos h, Nat.pow_succ]; omega
theorem mod32_le {k : IntKind} (i : Nat) (h : 32 ≤ k.bits := by decide) : i % 32 ≤ k.bits := by omega
theorem one_shl_lt (i : Nat) : 1 * 2 ^ (i % 32) < 4294967296 := by
  rw [Nat.one_mul]
  exact Nat.lt_of_lt_of_le (Nat.pow_lt_pow_right (by decide) (Nat.mod_lt i (by decide))) (Nat.le_refl _)
theorem digs_getD (a : Nat) : ∀ i : Nat, (digs a).getD i 0 = a / B32 ^ i % B32 := by
  induction a using Nat.strongRecOn with
  | _ a ih =>
    intro i
    by_cases h : a = 0
    · subst h; rw [digs_zero]; simp
    · rw [digs_pos h]
      cases i with
      | zero => simp
      | succ i =>
        rw [List.getD_cons_succ, ih (a / B32) (Nat.div_lt_self (by omega) (by decide)) i, Nat.div_div_eq_div_mul, Nat.pow_succ, Nat.mul_comm B32]
theorem bit_at (a i : Nat) : ((digs a).getD (i / 32) 0 / 2 ^ (i % 32) &&& 1) = a / 2 ^ i % 2 := by
  rw [Nat.and_one_is_mod, digs_getD]
  have e : B32 = 2 ^ 32 := rfl
  have h1 : a / 2 ^ i = a / B32 ^ (i / 32) / 2 ^ (i % 32) := by
    rw [e, ← Nat.pow_mul, Nat.div_div_eq_div_mul, ← Nat.pow_add, show 32 * (i / 32) + i % 32 = i by omega]
  rw [h1]
  generalize a / B32 ^ (i / 32) = m
  have h2 : m % B32 / 2 ^ (i % 32) = m / 2 ^ (i % 32) % 2 ^ (32 - i % 32) := by
    rw [e]
    conv => lhs; rw [show (2:Nat) ^ 32 = 2 ^ (i % 32) * 2 ^ (32 - i % 32) by rw [← Nat.pow_add]; congr 1; omega]
    rw [Nat.mod_mul_right_div_self]
  rw [h2]
  have h3 : (2:Nat) ^ (32 - i % 32) = 2 * 2 ^ (31 - i % 32) := by rw [← Nat.pow_succ']; congr 1; omega
  rw [h3, Nat.mod_mul_right_mod]
theorem cmpN_nonneg {a b : Nat} (h : ((0 : Nat) : Int) ≤ cmpN a b) : b ≤ a := by have := cmpN_neg (a := a) (b := b); omega
theorem cmpN_nneg {a b : Nat} (h : ¬ ((0 : Nat) : Int) ≤ cmpN a b) : a < b := by have := cmpN_neg (a := a) (b := b); omega
theorem div_halves {a k : Nat} (hk : 0 < k) : a / 2 ^ (k - 1) = 2 * (a / 2 ^ k) + a / 2 ^ (k - 1) % 2 := by
  obtain ⟨j, rfl⟩ : ∃ j, k = j + 1 := ⟨k - 1, by omega⟩
  rw [Nat.add_sub_cancel, Nat.pow_succ, ← Nat.div_div_eq_div_mul]; omega
theorem div_core {q b t : Nat} (hb : b ≠ 0) (ht : t ≤ 1) : (2 * q + t) / b = 2 * (q / b) + (if b ≤ 2 * (q % b) + t then 1 else 0) ∧ (2 * q + t) % b = 2 * (q % b) + t - (if b ≤ 2 * (q % b) + t then b else 0) := by
  have h1 := Nat.div_add_mod q b
  have h2 := Nat.mod_lt q (Nat.pos_of_ne_zero hb)
  generalize q / b = x at *
  generalize q % b = r at *
  subst h1
  have e : 2 * (b * x + r) + t = b * (2 * x) + (2 * r + t) := by grind
  rw [e]
  split
  · rename_i h
    have e2 : b * (2 * x) + (2 * r + t) = b * (2 * x + 1) + (2 * r + t - b) := by rw [Nat.mul_add, Nat.mul_one]; omega
    rw [e2, Nat.mul_add_div (Nat.pos_of_ne_zero hb), Nat.mul_add_mod, Nat.div_eq_of_lt (by omega), Nat.mod_eq_of_lt (by omega)]
    exact ⟨rfl, rfl⟩
  · rename_i h
    rw [Nat.mul_add_div (Nat.pos_of_ne_zero hb), Nat.mul_add_mod, Nat.div_eq_of_lt (by omega), Nat.mod_eq_of_lt (by omega)]
    exact ⟨rfl, rfl⟩
theorem val_getD {l : List Nat} (f : Fit l) : ∀ {i : Nat}, i < l.length → l.getD i 0 = val l / B32 ^ i % B32 := by
  induction l with
  | nil => intro i h; simp at h
  | cons x l ih =>
    intro i h
    have hx : x < B32 := f x (List.mem_cons_self ..)
    cases i with
    | zero => simp [val, Nat.add_mul_mod_self_left, Nat.mod_eq_of_lt hx]
    | succ i =>
      rw [List.getD_cons_succ, ih (fun y hy => f y (List.mem_cons_of_mem _ hy)) (by simpa using h), val, Nat.pow_succ, Nat.mul_comm (B32 ^ i), ← Nat.div_div_eq_div_mul, Nat.add_mul_div_left _ _ B32_pos, Nat.div_eq_of_lt hx, Nat.zero_add]
section divs
variable {a b k : Nat} (hk : 0 < k) (hb : b ≠ 0)
include hk hb
theorem div_t1 (ht : a / 2 ^ (k - 1) % 2 = 1) (hge : b ≤ a / 2 ^ k % b + a / 2 ^ k % b + 1) : a / 2 ^ k % b + a / 2 ^ k % b + 1 - b = a / 2 ^ (k - 1) % b := by
  rw [div_halves hk, ht, (div_core hb (Nat.le_refl 1)).2, if_pos (by omega)]; omega
theorem div_f1 (ht : a / 2 ^ (k - 1) % 2 = 1) (hge : a / 2 ^ k % b + a / 2 ^ k % b + 1 < b) : a / 2 ^ k % b + a / 2 ^ k % b + 1 = a / 2 ^ (k - 1) % b := by
  rw [div_halves hk, ht, (div_core hb (Nat.le_refl 1)).2, if_neg (by omega)]; omega
theorem div_t0 (ht : a / 2 ^ (k - 1) % 2 = 0) (hge : b ≤ a / 2 ^ k % b + a / 2 ^ k % b) : a / 2 ^ k % b + a / 2 ^ k % b - b = a / 2 ^ (k - 1) % b := by
  rw [div_halves hk, ht, (div_core hb (Nat.zero_le 1)).2, if_pos (by omega)]; omega
theorem div_f0 (ht : a / 2 ^ (k - 1) % 2 = 0) (hge : a / 2 ^ k % b + a / 2 ^ k % b < b) : a / 2 ^ k % b + a / 2 ^ k % b = a / 2 ^ (k - 1) % b := by
  rw [div_halves hk, ht, (div_core hb (Nat.zero_le 1)).2, if_neg (by omega)]; omega
omit hb in
theorem pow_half : 2 ^ k = 2 ^ (k - 1) * 2 := by rw [← Nat.pow_succ]; congr 1; omega
theorem divv_f1 {out : List Nat} (ht : a / 2 ^ (k - 1) % 2 = 1) (hge : a / 2 ^ k % b + a / 2 ^ k % b + 1 < b) (hv : val out = 2 ^ k * (a / 2 ^ k / b)) : val out = 2 ^ (k - 1) * (a / 2 ^ (k - 1) / b) := by
  have e : a / 2 ^ (k - 1) / b = 2 * (a / 2 ^ k / b) := by rw [div_halves hk, ht, (div_core hb (Nat.le_refl 1)).1, if_neg (by omega)]; rfl
  rw [hv, e, pow_half hk, Nat.mul_assoc]
theorem divv_f0 {out : List Nat} (ht : a / 2 ^ (k - 1) % 2 = 0) (hge : a / 2 ^ k % b + a / 2 ^ k % b < b) (hv : val out = 2 ^ k * (a / 2 ^ k / b)) : val out = 2 ^ (k - 1) * (a / 2 ^ (k - 1) / b) := by
  have e : a / 2 ^ (k - 1) / b = 2 * (a / 2 ^ k / b) := by rw [div_halves hk, ht, (div_core hb (Nat.zero_le 1)).1, if_neg (by omega)]; rfl
  rw [hv, e, pow_half hk, Nat.mul_assoc]
omit hk hb in
theorem set_bit {out : List Nat} {i q : Nat} (hi : i / 32 < out.length) (hf : Fit out) (hv : val out = 2 ^ (i + 1) * q) :
    val (out.set (i / 32) (out.getD (i / 32) 0 ||| 1 * 2 ^ (i % 32))) = 2 ^ i * (2 * q + 1) := by
  have hg : out.getD (i / 32) 0 = val out / B32 ^ (i / 32) % B32 := val_getD hf hi
  have e : B32 = 2 ^ 32 := rfl
  have hm : out.getD (i / 32) 0 % 2 ^ (i % 32 + 1) = 0 := by
    rw [hg, hv, e, ← Nat.pow_mul]
    have h1 : (2:Nat) ^ (i + 1) = 2 ^ (32 * (i / 32)) * 2 ^ (i % 32 + 1) := by rw [← Nat.pow_add]; congr 1; omega
    rw [h1, Nat.mul_assoc, Nat.mul_div_cancel_left _ (Nat.pow_pos (by decide))]
    have h2 : (2:Nat) ^ 32 = 2 ^ (i % 32 + 1) * 2 ^ (31 - i % 32) := by rw [← Nat.pow_add]; congr 1; omega
    rw [h2, Nat.mod_mul_right_mod, Nat.mul_mod_right]
  have hor : (out.getD (i / 32) 0 ||| 1 * 2 ^ (i % 32)) = out.getD (i / 32) 0 + 2 ^ (i % 32) := by
    obtain ⟨c, hc⟩ := Nat.dvd_of_mod_eq_zero hm
    rw [hc, Nat.one_mul, ← Nat.two_pow_add_eq_or_of_lt (Nat.pow_lt_pow_right (by decide) (by omega))]
  have hs := val_set out (i / 32) (out.getD (i / 32) 0 + 2 ^ (i % 32)) hi
  rw [hor]
  have hp : 2 ^ (i % 32) * B32 ^ (i / 32) = 2 ^ i := by rw [e, ← Nat.pow_mul, ← Nat.pow_add]; congr 1; omega
  rw [Nat.add_mul, hp, hv, Nat.pow_succ] at hs
  rw [Nat.mul_add, Nat.mul_one]
  have : 2 ^ i * 2 * q = 2 ^ i * (2 * q) := by rw [Nat.mul_assoc]
  omega
theorem divv_t1 {out : List Nat} (ht : a / 2 ^ (k - 1) % 2 = 1) (hge : b ≤ a / 2 ^ k % b + a / 2 ^ k % b + 1) (hl : out.length = (digs a).length) (hf : Fit out) (hbz : k ≤ 32 * (digs a).length) (hv : val out = 2 ^ k * (a / 2 ^ k / b)) :
    val (out.set ((k - 1) / 32) (out.getD ((k - 1) / 32) 0 ||| 1 * 2 ^ ((k - 1) % 32))) = 2 ^ (k - 1) * (a / 2 ^ (k - 1) / b) := by
  have e : a / 2 ^ (k - 1) / b = 2 * (a / 2 ^ k / b) + 1 := by rw [div_halves hk, ht, (div_core hb (Nat.le_refl 1)).1, if_pos (by omega)]
  rw [e]
  exact set_bit (by omega) hf (by rw [hv]; congr 2; omega)
theorem divv_t0 {out : List Nat} (ht : a / 2 ^ (k - 1) % 2 = 0) (hge : b ≤ a / 2 ^ k % b + a / 2 ^ k % b) (hl : out.length = (digs a).length) (hf : Fit out) (hbz : k ≤ 32 * (digs a).length) (hv : val out = 2 ^ k * (a / 2 ^ k / b)) :
    val (out.set ((k - 1) / 32) (out.getD ((k - 1) / 32) 0 ||| 1 * 2 ^ ((k - 1) % 32))) = 2 ^ (k - 1) * (a / 2 ^ (k - 1) / b) := by
  have e : a / 2 ^ (k - 1) / b = 2 * (a / 2 ^ k / b) + 1 := by rw [div_halves hk, ht, (div_core hb (Nat.zero_le 1)).1, if_pos (by omega)]
  rw [e]
  exact set_bit (by omega) hf (by rw [hv]; congr 2; omega)
end divs
theorem gcd_both {x y t G : Nat} (hx : x % 2 = 0) (hy : y % 2 = 0) (h : 2 ^ t * Nat.gcd x y = G) : 2 ^ (t + 1) * Nat.gcd (x / 2) (y / 2) = G := by
  obtain ⟨m, rfl⟩ := Nat.dvd_of_mod_eq_zero hx
  obtain ⟨n, rfl⟩ := Nat.dvd_of_mod_eq_zero hy
  rw [Nat.mul_div_cancel_left _ (by decide), Nat.mul_div_cancel_left _ (by decide), ← h, Nat.gcd_mul_left, Nat.pow_succ, Nat.mul_assoc]
theorem gcd_odd {x y : Nat} (hy : y ≠ 0) (h : ¬ (x % 2 = 0 ∧ y % 2 = 0)) : Nat.gcd x y % 2 = 1 := by
  rcases Nat.mod_two_eq_zero_or_one (Nat.gcd x y) with h2 | h2
  · exfalso
    have hd := Nat.dvd_of_mod_eq_zero h2
    exact h ⟨Nat.mod_eq_zero_of_dvd (Nat.dvd_trans hd (Nat.gcd_dvd_left ..)), Nat.mod_eq_zero_of_dvd (Nat.dvd_trans hd (Nat.gcd_dvd_right ..))⟩
  · exact h2
theorem gcd_half_l {x y G : Nat} (ho : G % 2 = 1) (hx : x % 2 = 0) (h : Nat.gcd x y = G) : Nat.gcd (x / 2) y = G := by
  obtain ⟨m, rfl⟩ := Nat.dvd_of_mod_eq_zero hx
  rw [Nat.mul_div_cancel_left _ (by decide)]
  apply Nat.dvd_antisymm
  · rw [← h]; exact Nat.dvd_gcd (Nat.dvd_trans (Nat.gcd_dvd_left ..) (Nat.dvd_mul_left ..)) (Nat.gcd_dvd_right ..)
  · have h1 : G ∣ 2 * m := h ▸ Nat.gcd_dvd_left ..
    have h2 : G ∣ y := h ▸ Nat.gcd_dvd_right ..
    have hc : Nat.Coprime G 2 := by
      rw [Nat.coprime_comm, Nat.Coprime, Nat.gcd_rec, ho]; rfl
    exact Nat.dvd_gcd (hc.dvd_of_dvd_mul_left h1) h2
theorem gcd_half_r {x y G : Nat} (ho : G % 2 = 1) (hy : y % 2 = 0) (h : Nat.gcd x y = G) : Nat.gcd x (y / 2) = G := by
  rw [Nat.gcd_comm]; exact gcd_half_l ho hy (by rw [Nat.gcd_comm]; exact h)
theorem gcd_sub {x y G : Nat} (hle : x ≤ y) (h : Nat.gcd x y = G) : Nat.gcd x (y - x) = G := by
  rw [← h]; exact Nat.gcd_sub_self_right hle
theorem gcd_swap_sub {x y G : Nat} (hlt : y < x) (h : Nat.gcd x y = G) : Nat.gcd y (x - y) = G := by
  rw [Nat.gcd_sub_self_right (Nat.le_of_lt hlt), Nat.gcd_comm]; exact h
theorem not_gt_of {x y : Nat} (h : ¬ ((0 : Nat) : Int) < cmpN x y) : x ≤ y := by have := cmpN_pos (a := x) (b := y); omega
theorem dbl_pow (x i : Nat) : x * 2 ^ i + x * 2 ^ i = x * 2 ^ (i + 1) := by rw [Nat.pow_succ]; grind
theorem pow_bound {t g a b : Nat} (ha : a ≠ 0) (h : 2 ^ t * g = Nat.gcd a b) : t ≤ 32 * sz a := by
  have h1 := Nat.gcd_le_left b (Nat.pos_of_ne_zero ha)
  have h0 : 0 < Nat.gcd a b := Nat.gcd_pos_of_pos_left b (Nat.pos_of_ne_zero ha)
  have hg : 0 < g := by
    rcases Nat.eq_zero_or_pos g with e | e
    · rw [e, Nat.mul_zero] at h; omega
    · exact e
  have h2 : 2 ^ t ≤ a := by
    have := Nat.le_mul_of_pos_right (2 ^ t) hg
    omega
  have h3 : a < 2 ^ (32 * sz a) := by rw [Nat.pow_mul]; exact lt_sz a
  exact Nat.le_of_lt ((Nat.pow_lt_pow_iff_right (by decide)).1 (Nat.lt_of_le_of_lt h2 h3))
theorem U.toLU {h : PH} {v : Value} {l : List Nat} (u : U h v l) : LR rpU h v l := by
  refine ⟨cellsU l, u.2, ?_⟩
  have key : ∀ l : List Nat, Fit l → Rows rpU h (cellsU l) l := by
    intro l
    induction l with
    | nil => intro _; trivial
    | cons x l ih => intro f; exact ⟨⟨rfl, f x (List.mem_cons_self ..)⟩, ih fun y hy => f y (List.mem_cons_of_mem _ hy)⟩
  exact key l u.1
theorem gcd_one {n d : Nat} (h : n = 1 ∨ d = 1) : 1 = Nat.gcd n d := by
  rcases h with rfl | rfl
  · rw [Nat.gcd_one_left]
  · rw [Nat.gcd_one_right]
theorem div_one {n g : Nat} (h : g = 1) : n = n / g := by subst h; rw [Nat.div_one]
theorem rmk_close {h : PH} {s : Bool} {x y : Value} {n d l : List Nat} (hn0 : val n ≠ 0) (hd0 : (if val d = 0 then 1 else val d) ≠ 0) (a : N h x (val n / Nat.gcd (val n) (if val d = 0 then 1 else val d))) (b : U h y l)
    (hl : l = if (if val d = 0 then 1 else val d) / Nat.gcd (val n) (if val d = 0 then 1 else val d) = 1 then [] else digs ((if val d = 0 then 1 else val d) / Nat.gcd (val n) (if val d = 0 then 1 else val d))) :
    Kn h (.agg #[.bool s, x, y]) (Fr.mk s n d).rat := by
  unfold Fr.rat
  simp only
  refine Kn.mk a b ?_ (ratOf_abs hd0) (by rw [← ratOf_den hd0]; exact hl)
  rw [← ratOf_neg hd0, decide_eq_true, Bool.and_true]
  exact Nat.div_pos (Nat.gcd_le_left _ (Nat.pos_of_ne_zero hn0)) (gcd_pos' hd0)
theorem digs1_len : (digs 1).length = 1 := by rw [digs_lit1]; rfl
theorem lit1_val {m c : Nat} {b : Option Addr} (e : 1 = m) : Value.slice b 1 c = Value.slice b (digs m).length c := by subst e; rw [digs1_len]
theorem lit1_N {h : PH} {m c : Nat} {b : Option Addr} (e : 1 = m) (u : U h (.slice b 1 c) [1]) : N h (.slice b (digs m).length c) m := by
  subst e; rw [digs1_len]; exact U.ofDigs u digs_lit1
theorem OwnL.one {α : Type} {r : Rp α} {h : PH} {lo : Nat} {w : World} {e : TypeId} {v : Value} {l : List α} (u : OwnL r lo h w e v l) : v.oneCell' = true := by
  obtain ⟨b, c, rfl, _⟩ := u.shape; rfl
end Go.Ear
