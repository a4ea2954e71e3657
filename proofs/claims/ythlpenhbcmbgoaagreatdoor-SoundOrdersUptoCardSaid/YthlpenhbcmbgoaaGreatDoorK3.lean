/- K3: a part of the proofs about what is clipped and stored: how the program's functions run, and what they compute, for every input. -/
import Derived.RangeFuncNested
import Derived.RangeFuncLeaves
import Derived.Sort.LoopGhostIn
import Derived.TacticsIn
import Derived.Test.YthlpenhbcmbgoaaGreatDoorK2
set_option linter.all false
set_option linter.unusedVariables false
namespace Go.Ear
theorem num_neg_iff {q : Rat} : q.num < 0 ↔ q < 0 := by
  have := Rat.num_nonneg (q := q)
  rw [← Rat.not_le, ← this]; omega
theorem num_pos_iff {q : Rat} : 0 < q.num ↔ 0 < q := by
  have h1 := Rat.num_nonneg (q := -q)
  rw [Rat.neg_num] at h1
  rw [← Rat.not_le]
  constructor
  · intro h h2
    have : 0 ≤ -q := by grind
    have := h1.2 this
    omega
  · intro h
    have : ¬ 0 ≤ -q.num := fun h3 => h (by have := h1.1 h3; grind)
    omega
theorem sgQ_neg {q : Rat} : sgQ q < 0 ↔ q < 0 := by
  unfold sgQ
  by_cases h : q = 0
  · subst h; simp
  · rw [if_neg h, ← num_neg_iff]
    split <;> simp_all
theorem sgQ_pos {q : Rat} : 0 < sgQ q ↔ 0 < q := by
  unfold sgQ
  by_cases h : q = 0
  · subst h; simp
  · rw [if_neg h]
    have h2 : q.num ≠ 0 := fun e => h (Rat.num_eq_zero.1 e)
    rw [← num_pos_iff]
    split
    · omega
    · omega
theorem sgQ_zero {q : Rat} : sgQ q = 0 ↔ q = 0 := by
  unfold sgQ
  by_cases h : q = 0
  · simp [h]
  · rw [if_neg h]; simp only [h, iff_false]; split <;> decide
def negF (f : Fr) : Bool := decide (f.rat < 0)
def idxP {α : Type} (p : α → Bool) (l : List α) : Int := if l.any p = true then (l.findIdx p : Int) else -1
theorem idx_found {α : Type} {p : α → Bool} {l : List α} {k : Nat} (d : α) (hk : k < l.length) (hn : (l.take k).any p = false) (hp : p (l.getD k d) = true) : idxP p l = k := by
  have h1 : l.any p = true := by
    rw [List.any_eq_true]
    refine ⟨l.getD k d, ?_, hp⟩
    rw [List.getD_eq_getElem?_getD, List.getElem?_eq_getElem hk]; exact List.getElem_mem hk
  unfold idxP
  rw [if_pos h1]
  congr 1
  rw [List.findIdx_eq hk]
  refine ⟨?_, ?_⟩
  · rwa [List.getD_eq_getElem?_getD, List.getElem?_eq_getElem hk] at hp
  · intro j hj
    have := List.any_eq_false.1 hn (l[j]) (by rw [List.mem_take_iff_getElem]; exact ⟨j, by omega, rfl⟩)
    simpa using this
theorem idx_none {α : Type} {p : α → Bool} {l : List α} {k : Nat} (hk : l.length ≤ k) (hn : (l.take k).any p = false) : idxP p l = -1 := by
  rw [List.take_of_length_le hk] at hn
  unfold idxP; rw [hn]; rfl
theorem any_take_succ {α : Type} {p : α → Bool} {l : List α} {k : Nat} (d : α) (hk : k < l.length) (hn : (l.take k).any p = false) (hp : p (l.getD k d) = false) : (l.take (k + 1)).any p = false := by
  rw [take_snoc d hk, List.any_append, hn, List.any_cons, hp]; rfl
theorem idx_any {α : Type} {p : α → Bool} {l : List α} : decide (0 ≤ idxP p l) = l.any p := by
  unfold idxP
  cases h : l.any p
  · rfl
  · rw [if_pos rfl]; simp
def bestAt (l : List Fr) : Nat → Int
  | 0 => -1
  | k + 1 => if bestAt l k < 0 ∨ (l.getD (bestAt l k).toNat fr0).rat < (l.getD k fr0).rat then (k : Int) else bestAt l k
def distF (l : List Fr) : Bool := !l.any negF && decide (sumF l = 1)
def normF (l : List Fr) : List Rat := if l.any negF = true ∨ sumF l = 0 then [] else l.map fun f => f.rat * (sumF l)⁻¹
def normE (l : List Fr) : Int := if l.any negF = true then 2 else if sumF l = 0 then 3 else 0
theorem map_take_succ {α β : Type} {f : α → β} {l : List α} {k : Nat} (d : α) (hk : k < l.length) : (l.take (k + 1)).map f = (l.take k).map f ++ [f (l.getD k d)] := by
  rw [take_snoc d hk]; simp
end Go.Ear
namespace Go.Ear
attribute [irreducible] bestAt
end Go.Ear
namespace Go.Ear
theorem plus_step {out a b : List Nat} {k c : Nat} (hl : out.length = k) (hv : val out + c * B32 ^ k = val (a.take k) + val (b.take k)) :
    val (out ++ [(c + a.getD k 0 + b.getD k 0) % 4294967296]) + (c + a.getD k 0 + b.getD k 0) / 2 ^ 32 * B32 ^ (k + 1) = val (a.take (k + 1)) + val (b.take (k + 1)) := by
  have := add_step (out := out ++ [0]) (a := a) (b := b) (k := k) (c := c) (by simp; omega) (by rw [← hl, List.take_left']; rw [hl]; exact hv; rfl)
  rw [← this]
  congr 2
  rw [List.take_of_length_le (by simp; omega)]
  subst hl
  simp [List.set_append_right]
theorem plus_close {out : List Nat} {a b k : Nat} (h1 : (digs a).length ≤ k) (h2 : (digs b).length ≤ k) (hv : val out + 0 * B32 ^ k = val ((digs a).take k) + val ((digs b).take k)) : val out = a + b := by
  rw [val_take_all h1, val_take_all h2, val_digs, val_digs] at hv; omega
theorem minus_step1 {out a b : List Nat} {k br : Nat} (hl : out.length = k) (hb : b.getD k 0 < 4294967296) (hlt : a.getD k 0 < br + b.getD k 0) (hk : k < a.length)
    (hv : val out + val (b.take k) = val (a.take k) + br * B32 ^ k) (h1 : br ≤ 1) :
    val (out ++ [(a.getD k 0 + 4294967296) - (br + b.getD k 0)]) + val (b.take (k + 1)) = val (a.take (k + 1)) + 1 * B32 ^ (k + 1) := by
  have hd : (out ++ a.drop k).drop k = a.drop k := by rw [← hl, List.drop_left' rfl]
  have ht : (out ++ a.drop k).take k = out := by rw [← hl, List.take_left' rfl]
  have hg : (out ++ a.drop k).getD k 0 = a.getD k 0 := by
    subst hl
    simp [List.getD_eq_getElem?_getD, List.getElem?_append_right]
  have := sub_step1 (out := out ++ a.drop k) (a := a) (b := b) (k := k) (br := br) (by simp; omega) hb (by rw [hg]; exact hlt) hd (by rw [ht]; exact hv) h1
  rw [← this, hg]
  congr 2
  rw [take_snoc 0 (by simp; omega), getD_set_self (by simp; omega), take_set_self, ht]
theorem minus_step2 {out a b : List Nat} {k br : Nat} (hl : out.length = k) (hb : b.getD k 0 < 4294967296) (hge : ¬ a.getD k 0 < br + b.getD k 0) (hk : k < a.length)
    (hv : val out + val (b.take k) = val (a.take k) + br * B32 ^ k) :
    val (out ++ [a.getD k 0 - (br + b.getD k 0)]) + val (b.take (k + 1)) = val (a.take (k + 1)) + 0 * B32 ^ (k + 1) := by
  have hd : (out ++ a.drop k).drop k = a.drop k := by rw [← hl, List.drop_left' rfl]
  have ht : (out ++ a.drop k).take k = out := by rw [← hl, List.take_left' rfl]
  have hg : (out ++ a.drop k).getD k 0 = a.getD k 0 := by
    subst hl
    simp [List.getD_eq_getElem?_getD, List.getElem?_append_right]
  have := sub_step2 (out := out ++ a.drop k) (a := a) (b := b) (k := k) (br := br) (by simp; omega) hb (by rw [hg]; exact hge) hd (by rw [ht]; exact hv)
  rw [← this, hg]
  congr 2
  rw [take_snoc 0 (by simp; omega), getD_set_self (by simp; omega), take_set_self, ht]
theorem minus_close {out : List Nat} {a b k br : Nat} (hk : k = (digs a).length) (hl : out.length = k) (hf : Fit out) (hlb : (digs b).length ≤ (digs a).length) (hba : b ≤ a)
    (hv : val out + val ((digs b).take k) = val ((digs a).take k) + br * B32 ^ k) : val out = a - b :=
  sub_close hk (by omega) hf hlb hba (by rw [List.take_of_length_le (by omega)]; exact hv)
theorem half_step {out a : List Nat} {k c : Nat} (hk : 0 < k) (h1 : k ≤ out.length) (h2 : k ≤ a.length) (hc : c < 2) (hb : a.getD (k - 1) 0 < 4294967296) (hv : val (out.drop k) * 2 + c = val (a.drop k)) :
    val ((out.set (k - 1) (a.getD (k - 1) 0 / 2 ^ 1 ||| c * 2 ^ 31)).drop (k - 1)) * 2 + (a.getD (k - 1) 0 &&& 1) = val (a.drop (k - 1)) := by
  have e : (a.getD (k - 1) 0 / 2 ^ 1 ||| c * 2 ^ 31) = (c * 2 ^ 32 + a.getD (k - 1) 0) / 2 := by
    rw [Nat.or_comm, Nat.mul_comm, ← Nat.two_pow_add_eq_or_of_lt (i := 31) (by have : (2:Nat)^31 = 2147483648 := rfl; omega)]
    have e1 : (2:Nat)^31 = 2147483648 := rfl
    have e2 : (2:Nat)^32 = 4294967296 := rfl
    rw [e1, e2]; omega
  have e3 : (a.getD (k - 1) 0 &&& 1) = (c * 2 ^ 32 + a.getD (k - 1) 0) % 2 := by
    rw [Nat.and_one_is_mod]
    have e2 : (2:Nat)^32 = 4294967296 := rfl
    rw [e2]; omega
  rw [e, e3]
  exact over_step hk h1 h2 hv
theorem half_lt {x c : Nat} (hx : x < 4294967296) (hc : c < 2) : (x / 2 ^ 1 ||| c * 2 ^ 31) < 4294967296 := by
  have e : (4294967296 : Nat) = 2 ^ 32 := rfl
  rw [e]
  refine Nat.or_lt_two_pow ?_ ?_
  · have e2 : (2:Nat)^32 = 4294967296 := rfl
    rw [e2]; omega
  · have e1 : (2:Nat)^31 = 2147483648 := rfl
    have e2 : (2:Nat)^32 = 4294967296 := rfl
    rw [e1, e2]; omega
theorem and1_lt (x : Nat) : (x &&& 1) < 2 := by rw [Nat.and_one_is_mod]; omega
theorem digs_even {a : Nat} : (digs a).getD 0 0 % 2 = a % 2 := by
  by_cases h : a = 0
  · subst h; rw [digs_zero]; rfl
  · rw [digs_pos h]; simp only [List.getD_cons_zero, B32_eq]; omega
theorem bits_step {x : Nat} (h : 0 < x) : bitlen x = bitlen (x / 2 ^ 1) + 1 := bitlen_pos (by omega)
theorem Fit.snoc {l : List Nat} {x : Nat} (f : Fit l) (h : x < 4294967296) : Fit (l ++ [x]) := fun y hy => by
  rcases List.mem_append.1 hy with hy | hy
  · exact f y hy
  · simp at hy; subst hy; exact h
theorem one_eq {a : Nat} : (decide ((digs a).length = 1) && decide ((digs a).getD 0 0 = 1)) = decide (a = 1) := by
  rw [Bool.eq_iff_iff]
  simp only [Bool.and_eq_true, decide_eq_true_eq]
  constructor
  · intro ⟨h1, h2⟩
    have h0 : a ≠ 0 := by rintro rfl; rw [digs_zero] at h1; simp at h1
    rw [digs_pos h0] at h1 h2
    simp only [List.length_cons] at h1
    simp only [List.getD_cons_zero, B32_eq] at h2
    have h3 : a / B32 = 0 := len_zero.1 (by omega)
    rw [B32_eq] at h3
    omega
  · rintro rfl
    rw [digs_pos (by decide)]
    simp [B32, digs_zero]
theorem digs_lit1 : digs 1 = [1] := by rw [digs_pos (by decide)]; simp [B32, digs_zero]
theorem bits_end {m x a : Nat} (hm : m + bitlen x = bitlen a) (h : ¬ 0 < x) : m = bitlen a := by
  have h0 : x = 0 := by omega
  rw [h0, bitlen_zero] at hm; omega
theorem val_one (r : Nat) : val [r] = r := by simp [val]
theorem lt_bitlen (a : Nat) : a < 2 ^ bitlen a := by
  induction a using Nat.strongRecOn with
  | _ a ih =>
    by_cases h : a = 0
    · subst h; rw [bitlen_zero]; decide
    · have := ih (a / 2) (by omega)
      rw [bitlen_pos h, Nat.pow_succ]; omega
theorem one_shl_lt (i : Nat) : 1 * 2 ^ (i % 32) < 4294967296 := by
  rw [Nat.one_mul]
  exact Nat.lt_of_lt_of_le (Nat.pow_lt_pow_right (by decide) (Nat.mod_lt i (by decide))) (Nat.le_refl _)
theorem digs_getD (a : Nat) : ∀ i : Nat, (digs a).getD i 0 = a / B32 ^ i % B32 := by
  induction a using Nat.strongRecOn with
  | _ a ih =>
    intro i
    by_cases h : a = 0
    · subst h; rw [digs_zero]; simp
    · rw [digs_pos h]
      cases i with
      | zero => simp
      | succ i =>
        rw [List.getD_cons_succ, ih (a / B32) (Nat.div_lt_self (by omega) (by decide)) i, Nat.div_div_eq_div_mul, Nat.pow_succ, Nat.mul_comm B32]
theorem bit_at (a i : Nat) : ((digs a).getD (i / 32) 0 / 2 ^ (i % 32) &&& 1) = a / 2 ^ i % 2 := by
  rw [Nat.and_one_is_mod, digs_getD]
  have e : B32 = 2 ^ 32 := rfl
  have h1 : a / 2 ^ i = a / B32 ^ (i / 32) / 2 ^ (i % 32) := by
    rw [e, ← Nat.pow_mul, Nat.div_div_eq_div_mul, ← Nat.pow_add, show 32 * (i / 32) + i % 32 = i by omega]
  rw [h1]
  generalize a / B32 ^ (i / 32) = m
  have h2 : m % B32 / 2 ^ (i % 32) = m / 2 ^ (i % 32) % 2 ^ (32 - i % 32) := by
    rw [e]
    conv => lhs; rw [show (2:Nat) ^ 32 = 2 ^ (i % 32) * 2 ^ (32 - i % 32) by rw [← Nat.pow_add]; congr 1; omega]
    rw [Nat.mod_mul_right_div_self]
  rw [h2]
  have h3 : (2:Nat) ^ (32 - i % 32) = 2 * 2 ^ (31 - i % 32) := by rw [← Nat.pow_succ']; congr 1; omega
  rw [h3, Nat.mod_mul_right_mod]
theorem cmpN_nonneg {a b : Nat} (h : ((0 : Nat) : Int) ≤ cmpN a b) : b ≤ a := by have := cmpN_neg (a := a) (b := b); omega
theorem cmpN_nneg {a b : Nat} (h : ¬ ((0 : Nat) : Int) ≤ cmpN a b) : a < b := by have := cmpN_neg (a := a) (b := b); omega
theorem div_halves {a k : Nat} (hk : 0 < k) : a / 2 ^ (k - 1) = 2 * (a / 2 ^ k) + a / 2 ^ (k - 1) % 2 := by
  obtain ⟨j, rfl⟩ : ∃ j, k = j + 1 := ⟨k - 1, by omega⟩
  rw [Nat.add_sub_cancel, Nat.pow_succ, ← Nat.div_div_eq_div_mul]; omega
theorem div_core {q b t : Nat} (hb : b ≠ 0) (ht : t ≤ 1) : (2 * q + t) / b = 2 * (q / b) + (if b ≤ 2 * (q % b) + t then 1 else 0) ∧ (2 * q + t) % b = 2 * (q % b) + t - (if b ≤ 2 * (q % b) + t then b else 0) := by
  have h1 := Nat.div_add_mod q b
  have h2 := Nat.mod_lt q (Nat.pos_of_ne_zero hb)
  generalize q / b = x at *
  generalize q % b = r at *
  subst h1
  have e : 2 * (b * x + r) + t = b * (2 * x) + (2 * r + t) := by grind
  rw [e]
  split
  · rename_i h
    have e2 : b * (2 * x) + (2 * r + t) = b * (2 * x + 1) + (2 * r + t - b) := by rw [Nat.mul_add, Nat.mul_one]; omega
    rw [e2, Nat.mul_add_div (Nat.pos_of_ne_zero hb), Nat.mul_add_mod, Nat.div_eq_of_lt (by omega), Nat.mod_eq_of_lt (by omega)]
    exact ⟨rfl, rfl⟩
  · rename_i h
    rw [Nat.mul_add_div (Nat.pos_of_ne_zero hb), Nat.mul_add_mod, Nat.div_eq_of_lt (by omega), Nat.mod_eq_of_lt (by omega)]
    exact ⟨rfl, rfl⟩
theorem val_getD {l : List Nat} (f : Fit l) : ∀ {i : Nat}, i < l.length → l.getD i 0 = val l / B32 ^ i % B32 := by
  induction l with
  | nil => intro i h; simp at h
  | cons x l ih =>
    intro i h
    have hx : x < B32 := f x (List.mem_cons_self ..)
    cases i with
    | zero => simp [val, Nat.add_mul_mod_self_left, Nat.mod_eq_of_lt hx]
    | succ i =>
      rw [List.getD_cons_succ, ih (fun y hy => f y (List.mem_cons_of_mem _ hy)) (by simpa using h), val, Nat.pow_succ, Nat.mul_comm (B32 ^ i), ← Nat.div_div_eq_div_mul, Nat.add_mul_div_left _ _ B32_pos, Nat.div_eq_of_lt hx, Nat.zero_add]
section divs
variable {a b k : Nat} (hk : 0 < k) (hb : b ≠ 0)
include hk hb
theorem div_t1 (ht : a / 2 ^ (k - 1) % 2 = 1) (hge : b ≤ a / 2 ^ k % b + a / 2 ^ k % b + 1) : a / 2 ^ k % b + a / 2 ^ k % b + 1 - b = a / 2 ^ (k - 1) % b := by
  rw [div_halves hk, ht, (div_core hb (Nat.le_refl 1)).2, if_pos (by omega)]; omega
theorem div_f1 (ht : a / 2 ^ (k - 1) % 2 = 1) (hge : a / 2 ^ k % b + a / 2 ^ k % b + 1 < b) : a / 2 ^ k % b + a / 2 ^ k % b + 1 = a / 2 ^ (k - 1) % b := by
  rw [div_halves hk, ht, (div_core hb (Nat.le_refl 1)).2, if_neg (by omega)]; omega
theorem div_t0 (ht : a / 2 ^ (k - 1) % 2 = 0) (hge : b ≤ a / 2 ^ k % b + a / 2 ^ k % b) : a / 2 ^ k % b + a / 2 ^ k % b - b = a / 2 ^ (k - 1) % b := by
  rw [div_halves hk, ht, (div_core hb (Nat.zero_le 1)).2, if_pos (by omega)]; omega
theorem div_f0 (ht : a / 2 ^ (k - 1) % 2 = 0) (hge : a / 2 ^ k % b + a / 2 ^ k % b < b) : a / 2 ^ k % b + a / 2 ^ k % b = a / 2 ^ (k - 1) % b := by
  rw [div_halves hk, ht, (div_core hb (Nat.zero_le 1)).2, if_neg (by omega)]; omega
omit hb in
theorem pow_half : 2 ^ k = 2 ^ (k - 1) * 2 := by rw [← Nat.pow_succ]; congr 1; omega
theorem divv_f1 {out : List Nat} (ht : a / 2 ^ (k - 1) % 2 = 1) (hge : a / 2 ^ k % b + a / 2 ^ k % b + 1 < b) (hv : val out = 2 ^ k * (a / 2 ^ k / b)) : val out = 2 ^ (k - 1) * (a / 2 ^ (k - 1) / b) := by
  have e : a / 2 ^ (k - 1) / b = 2 * (a / 2 ^ k / b) := by rw [div_halves hk, ht, (div_core hb (Nat.le_refl 1)).1, if_neg (by omega)]; rfl
  rw [hv, e, pow_half hk, Nat.mul_assoc]
theorem divv_f0 {out : List Nat} (ht : a / 2 ^ (k - 1) % 2 = 0) (hge : a / 2 ^ k % b + a / 2 ^ k % b < b) (hv : val out = 2 ^ k * (a / 2 ^ k / b)) : val out = 2 ^ (k - 1) * (a / 2 ^ (k - 1) / b) := by
  have e : a / 2 ^ (k - 1) / b = 2 * (a / 2 ^ k / b) := by rw [div_halves hk, ht, (div_core hb (Nat.zero_le 1)).1, if_neg (by omega)]; rfl
  rw [hv, e, pow_half hk, Nat.mul_assoc]
omit hk hb in
theorem set_bit {out : List Nat} {i q : Nat} (hi : i / 32 < out.length) (hf : Fit out) (hv : val out = 2 ^ (i + 1) * q) :
    val (out.set (i / 32) (out.getD (i / 32) 0 ||| 1 * 2 ^ (i % 32))) = 2 ^ i * (2 * q + 1) := by
  have hg : out.getD (i / 32) 0 = val out / B32 ^ (i / 32) % B32 := val_getD hf hi
  have e : B32 = 2 ^ 32 := rfl
  have hm : out.getD (i / 32) 0 % 2 ^ (i % 32 + 1) = 0 := by
    rw [hg, hv, e, ← Nat.pow_mul]
    have h1 : (2:Nat) ^ (i + 1) = 2 ^ (32 * (i / 32)) * 2 ^ (i % 32 + 1) := by rw [← Nat.pow_add]; congr 1; omega
    rw [h1, Nat.mul_assoc, Nat.mul_div_cancel_left _ (Nat.pow_pos (by decide))]
    have h2 : (2:Nat) ^ 32 = 2 ^ (i % 32 + 1) * 2 ^ (31 - i % 32) := by rw [← Nat.pow_add]; congr 1; omega
    rw [h2, Nat.mod_mul_right_mod, Nat.mul_mod_right]
  have hor : (out.getD (i / 32) 0 ||| 1 * 2 ^ (i % 32)) = out.getD (i / 32) 0 + 2 ^ (i % 32) := by
    obtain ⟨c, hc⟩ := Nat.dvd_of_mod_eq_zero hm
    rw [hc, Nat.one_mul, ← Nat.two_pow_add_eq_or_of_lt (Nat.pow_lt_pow_right (by decide) (by omega))]
  have hs := val_set out (i / 32) (out.getD (i / 32) 0 + 2 ^ (i % 32)) hi
  rw [hor]
  have hp : 2 ^ (i % 32) * B32 ^ (i / 32) = 2 ^ i := by rw [e, ← Nat.pow_mul, ← Nat.pow_add]; congr 1; omega
  rw [Nat.add_mul, hp, hv, Nat.pow_succ] at hs
  rw [Nat.mul_add, Nat.mul_one]
  have : 2 ^ i * 2 * q = 2 ^ i * (2 * q) := by rw [Nat.mul_assoc]
  omega
theorem divv_t1 {out : List Nat} (ht : a / 2 ^ (k - 1) % 2 = 1) (hge : b ≤ a / 2 ^ k % b + a / 2 ^ k % b + 1) (hl : out.length = (digs a).length) (hf : Fit out) (hbz : k ≤ 32 * (digs a).length) (hv : val out = 2 ^ k * (a / 2 ^ k / b)) :
    val (out.set ((k - 1) / 32) (out.getD ((k - 1) / 32) 0 ||| 1 * 2 ^ ((k - 1) % 32))) = 2 ^ (k - 1) * (a / 2 ^ (k - 1) / b) := by
  have e : a / 2 ^ (k - 1) / b = 2 * (a / 2 ^ k / b) + 1 := by rw [div_halves hk, ht, (div_core hb (Nat.le_refl 1)).1, if_pos (by omega)]
  rw [e]
  exact set_bit (by omega) hf (by rw [hv]; congr 2; omega)
theorem divv_t0 {out : List Nat} (ht : a / 2 ^ (k - 1) % 2 = 0) (hge : b ≤ a / 2 ^ k % b + a / 2 ^ k % b) (hl : out.length = (digs a).length) (hf : Fit out) (hbz : k ≤ 32 * (digs a).length) (hv : val out = 2 ^ k * (a / 2 ^ k / b)) :
    val (out.set ((k - 1) / 32) (out.getD ((k - 1) / 32) 0 ||| 1 * 2 ^ ((k - 1) % 32))) = 2 ^ (k - 1) * (a / 2 ^ (k - 1) / b) := by
  have e : a / 2 ^ (k - 1) / b = 2 * (a / 2 ^ k / b) + 1 := by rw [div_halves hk, ht, (div_core hb (Nat.zero_le 1)).1, if_pos (by omega)]
  rw [e]
  exact set_bit (by omega) hf (by rw [hv]; congr 2; omega)
end divs
theorem gcd_both {x y t G : Nat} (hx : x % 2 = 0) (hy : y % 2 = 0) (h : 2 ^ t * Nat.gcd x y = G) : 2 ^ (t + 1) * Nat.gcd (x / 2) (y / 2) = G := by
  obtain ⟨m, rfl⟩ := Nat.dvd_of_mod_eq_zero hx
  obtain ⟨n, rfl⟩ := Nat.dvd_of_mod_eq_zero hy
  rw [Nat.mul_div_cancel_left _ (by decide), Nat.mul_div_cancel_left _ (by decide), ← h, Nat.gcd_mul_left, Nat.pow_succ, Nat.mul_assoc]
theorem gcd_odd {x y : Nat} (hy : y ≠ 0) (h : ¬ (x % 2 = 0 ∧ y % 2 = 0)) : Nat.gcd x y % 2 = 1 := by
  rcases Nat.mod_two_eq_zero_or_one (Nat.gcd x y) with h2 | h2
  · exfalso
    have hd := Nat.dvd_of_mod_eq_zero h2
    exact h ⟨Nat.mod_eq_zero_of_dvd (Nat.dvd_trans hd (Nat.gcd_dvd_left ..)), Nat.mod_eq_zero_of_dvd (Nat.dvd_trans hd (Nat.gcd_dvd_right ..))⟩
  · exact h2
theorem gcd_half_l {x y G : Nat} (ho : G % 2 = 1) (hx : x % 2 = 0) (h : Nat.gcd x y = G) : Nat.gcd (x / 2) y = G := by
  obtain ⟨m, rfl⟩ := Nat.dvd_of_mod_eq_zero hx
  rw [Nat.mul_div_cancel_left _ (by decide)]
  apply Nat.dvd_antisymm
  · rw [← h]; exact Nat.dvd_gcd (Nat.dvd_trans (Nat.gcd_dvd_left ..) (Nat.dvd_mul_left ..)) (Nat.gcd_dvd_right ..)
  · have h1 : G ∣ 2 * m := h ▸ Nat.gcd_dvd_left ..
    have h2 : G ∣ y := h ▸ Nat.gcd_dvd_right ..
    have hc : Nat.Coprime G 2 := by
      rw [Nat.coprime_comm, Nat.Coprime, Nat.gcd_rec, ho]; rfl
    exact Nat.dvd_gcd (hc.dvd_of_dvd_mul_left h1) h2
theorem gcd_half_r {x y G : Nat} (ho : G % 2 = 1) (hy : y % 2 = 0) (h : Nat.gcd x y = G) : Nat.gcd x (y / 2) = G := by
  rw [Nat.gcd_comm]; exact gcd_half_l ho hy (by rw [Nat.gcd_comm]; exact h)
theorem gcd_sub {x y G : Nat} (hle : x ≤ y) (h : Nat.gcd x y = G) : Nat.gcd x (y - x) = G := by
  rw [← h]; exact Nat.gcd_sub_self_right hle
theorem gcd_swap_sub {x y G : Nat} (hlt : y < x) (h : Nat.gcd x y = G) : Nat.gcd y (x - y) = G := by
  rw [Nat.gcd_sub_self_right (Nat.le_of_lt hlt), Nat.gcd_comm]; exact h
theorem not_gt_of {x y : Nat} (h : ¬ ((0 : Nat) : Int) < cmpN x y) : x ≤ y := by have := cmpN_pos (a := x) (b := y); omega
theorem dbl_pow (x i : Nat) : x * 2 ^ i + x * 2 ^ i = x * 2 ^ (i + 1) := by rw [Nat.pow_succ]; grind
theorem pow_bound {t g a b : Nat} (ha : a ≠ 0) (h : 2 ^ t * g = Nat.gcd a b) : t ≤ 32 * sz a := by
  have h1 := Nat.gcd_le_left b (Nat.pos_of_ne_zero ha)
  have h0 : 0 < Nat.gcd a b := Nat.gcd_pos_of_pos_left b (Nat.pos_of_ne_zero ha)
  have hg : 0 < g := by
    rcases Nat.eq_zero_or_pos g with e | e
    · rw [e, Nat.mul_zero] at h; omega
    · exact e
  have h2 : 2 ^ t ≤ a := by
    have := Nat.le_mul_of_pos_right (2 ^ t) hg
    omega
  have h3 : a < 2 ^ (32 * sz a) := by rw [Nat.pow_mul]; exact lt_sz a
  exact Nat.le_of_lt ((Nat.pow_lt_pow_iff_right (by decide)).1 (Nat.lt_of_le_of_lt h2 h3))
theorem gcd_one {n d : Nat} (h : n = 1 ∨ d = 1) : 1 = Nat.gcd n d := by
  rcases h with rfl | rfl
  · rw [Nat.gcd_one_left]
  · rw [Nat.gcd_one_right]
theorem div_one {n g : Nat} (h : g = 1) : n = n / g := by subst h; rw [Nat.div_one]
end Go.Ear
namespace Go.Ear
def lowF (f : Fr) : Nat := if val f.d = 0 then 1 else val f.d
theorem lowF_ne (f : Fr) : lowF f ≠ 0 := by unfold lowF; split <;> omega
theorem Fr.rat_eq (f : Fr) : f.rat = ratOf f.neg (val f.n) (lowF f) := rfl
theorem sz_lowF {f : Fr} (h : Fit f.d) : sz (lowF f) ≤ bf f := by
  unfold lowF
  split
  · rw [sz_one]; exact bf_pos f
  · exact Nat.le_trans (sz_len h) (bf_d f)
theorem sz_valn {f : Fr} (h : Fit f.n) : sz (val f.n) ≤ bf f := Nat.le_trans (sz_len h) (bf_n f)
theorem ratOf_div (s : Bool) (n d : Nat) : ratOf s n d = ((sgn s n : Int) : Rat) / ((d : Int) : Rat) := by
  unfold ratOf sgn
  rw [Rat.mkRat_eq_div]; rfl
theorem nc_ne {d : Nat} (h : d ≠ 0) : ((d : Int) : Rat) ≠ 0 := fun e => h (by have := Rat.intCast_inj.1 (e.trans Rat.intCast_zero.symm); omega)
theorem add_s {s : Bool} {n d m e : Nat} (hd : d ≠ 0) (he : e ≠ 0) : ratOf s (n * e + m * d) (d * e) = ratOf s n d + ratOf s m e := by
  rw [ratOf_div, ratOf_div, ratOf_div]
  have h1 := nc_ne hd
  have h2 := nc_ne he
  have h3 : ((sgn s (n * e + m * d) : Int) : Rat) = (sgn s n : Int) * ((e : Int) : Rat) + (sgn s m : Int) * ((d : Int) : Rat) := by
    rw [← Rat.intCast_mul, ← Rat.intCast_mul, ← Rat.intCast_add]
    congr 1
    unfold sgn; split <;> simp <;> grind
  have h4 : ((((d * e : Nat) : Int)) : Rat) = ((d : Int) : Rat) * ((e : Int) : Rat) := by rw [← Rat.intCast_mul]; rfl
  rw [h3, h4]
  grind
theorem sub_s {s t : Bool} {n d m e : Nat} (hd : d ≠ 0) (he : e ≠ 0) (hst : s ≠ t) (hle : m * d ≤ n * e) : ratOf s (n * e - m * d) (d * e) = ratOf s n d + ratOf t m e := by
  rw [ratOf_div, ratOf_div, ratOf_div]
  have h1 := nc_ne hd
  have h2 := nc_ne he
  have h3 : ((sgn s (n * e - m * d) : Int) : Rat) = (sgn s n : Int) * ((e : Int) : Rat) + (sgn t m : Int) * ((d : Int) : Rat) := by
    rw [← Rat.intCast_mul, ← Rat.intCast_mul, ← Rat.intCast_add]
    congr 1
    have e3 : ((n * e - m * d : Nat) : Int) = (n : Int) * e - m * d := by rw [Int.ofNat_sub hle]; simp
    unfold sgn
    cases s <;> cases t <;> first | exact absurd rfl hst | (simp only [Bool.false_eq_true, if_false, if_true, e3]; grind)
  have h4 : ((((d * e : Nat) : Int)) : Rat) = ((d : Int) : Rat) * ((e : Int) : Rat) := by rw [← Rat.intCast_mul]; rfl
  rw [h3, h4]
  grind
theorem sub_s' {s t : Bool} {n d m e : Nat} (hd : d ≠ 0) (he : e ≠ 0) (hst : s ≠ t) (hlt : n * e ≤ m * d) : ratOf t (m * d - n * e) (d * e) = ratOf s n d + ratOf t m e := by
  rw [Nat.mul_comm d e, Rat.add_comm]; exact sub_s he hd (fun h => hst h.symm) hlt
theorem mul_s {s t : Bool} {n d m e : Nat} (hd : d ≠ 0) (he : e ≠ 0) : ratOf (s != t) (n * m) (d * e) = ratOf s n d * ratOf t m e := by
  rw [ratOf_div, ratOf_div, ratOf_div]
  have h1 := nc_ne hd
  have h2 := nc_ne he
  have h3 : ((sgn (s != t) (n * m) : Int) : Rat) = (sgn s n : Int) * (sgn t m : Int) := by
    rw [← Rat.intCast_mul]
    congr 1
    unfold sgn
    cases s <;> cases t <;> simp <;> grind
  have h4 : ((((d * e : Nat) : Int)) : Rat) = ((d : Int) : Rat) * ((e : Int) : Rat) := by rw [← Rat.intCast_mul]; rfl
  rw [h3, h4]
  grind
theorem inv_s {s : Bool} {n d : Nat} (hn : n ≠ 0) (hd : d ≠ 0) : ratOf s d n = (ratOf s n d)⁻¹ := by
  rw [ratOf_div, ratOf_div]
  have h1 := nc_ne hd
  have h2 := nc_ne hn
  cases s
  · show ((d : Int) : Rat) / ((n : Int) : Rat) = (((n : Int) : Rat) / ((d : Int) : Rat))⁻¹
    grind
  · show ((-(d : Int) : Int) : Rat) / ((n : Int) : Rat) = (((-(n : Int) : Int) : Rat) / ((d : Int) : Rat))⁻¹
    rw [Rat.intCast_neg, Rat.intCast_neg]
    grind
theorem rat_zero_iff {f : Fr} : f.rat = 0 ↔ val f.n = 0 := by
  rw [Fr.rat_eq, ratOf_div]
  have h1 := nc_ne (lowF_ne f)
  constructor
  · intro h
    have h2 : ((sgn f.neg (val f.n) : Int) : Rat) = 0 := by grind
    have h3 := Rat.intCast_inj.1 (h2.trans Rat.intCast_zero.symm)
    unfold sgn at h3
    split at h3 <;> omega
  · intro h
    rw [h]
    have : sgn f.neg 0 = 0 := by unfold sgn; split <;> rfl
    rw [this, Rat.intCast_zero]; grind
theorem int_s {n : Int} : ratOf (decide (n < 0)) n.natAbs 1 = (n : Rat) := by
  rw [ratOf_div]
  have h : sgn (decide (n < 0)) n.natAbs = n := by
    unfold sgn
    by_cases h : n < 0
    · rw [if_pos (by simpa using h)]; omega
    · rw [if_neg (by simpa using h)]; omega
  rw [h]
  have : (((1 : Nat) : Int) : Rat) = 1 := rfl
  rw [this]; grind
theorem quot_s {n d : Int} (hd : d ≠ 0) : ratOf (decide (n < 0) != decide (d < 0)) n.natAbs d.natAbs = (n : Rat) / (d : Rat) := by
  have h1 : d.natAbs ≠ 0 := by omega
  have := mul_s (s := decide (n < 0)) (t := decide (d < 0)) (n := n.natAbs) (d := 1) (m := 1) (e := d.natAbs) (by decide) h1
  rw [Nat.mul_one, Nat.one_mul] at this
  rw [this, int_s, inv_s (n := d.natAbs) (d := 1) h1 (by decide), int_s, Rat.div_def]
theorem sign_s {f : Fr} : sgQ f.rat = if val f.n = 0 then 0 else if f.neg = true then -1 else 1 := by
  unfold sgQ
  by_cases h : val f.n = 0
  · rw [if_pos (rat_zero_iff.2 h), if_pos h]
  · rw [if_neg (fun e => h (rat_zero_iff.1 e)), if_neg h]
    have hn := ratOf_neg (s := f.neg) (n := val f.n) (lowF_ne f)
    have hp : 0 < val f.n / Nat.gcd (val f.n) (lowF f) := Nat.div_pos (Nat.gcd_le_left _ (Nat.pos_of_ne_zero h)) (gcd_pos' (lowF_ne f))
    rw [decide_eq_true hp, Bool.and_true, ← Fr.rat_eq] at hn
    by_cases hs : f.neg = true
    · rw [hs] at hn
      rw [if_pos (of_decide_eq_true hn.symm), if_pos hs]
    · rw [if_neg hs]
      rw [Bool.not_eq_true] at hs
      rw [hs] at hn
      rw [if_neg (of_decide_eq_false hn.symm)]
def sameF (f g : Fr) : Bool := decide (f.neg = g.neg) && (decide (f.n = g.n) && decide (f.d = g.d))
theorem sameF_iff {f g : Fr} : sameF f g = true ↔ f = g := by
  unfold sameF
  cases f; cases g
  simp
theorem take_eq_succ {a b : List Nat} {k : Nat} (ha : k < a.length) (hb : k < b.length) (h : a.take k = b.take k) (he : a.getD k 0 = b.getD k 0) : a.take (k + 1) = b.take (k + 1) := by
  rw [take_snoc 0 ha, take_snoc 0 hb, h, he]
theorem ne_of_getD {a b : List Nat} {k : Nat} (h : a.getD k 0 ≠ b.getD k 0) : ¬ a = b := fun e => h (by rw [e])
section
variable {a b : Fr}
theorem add_F (h : a.neg = b.neg) : ratOf a.neg (val a.n * lowF b + val b.n * lowF a) (lowF a * lowF b) = a.rat + b.rat := by
  rw [Fr.rat_eq a, Fr.rat_eq b, ← h]; exact add_s (lowF_ne a) (lowF_ne b)
theorem sub_F (h : ¬ a.neg = b.neg) (hle : val b.n * lowF a ≤ val a.n * lowF b) : ratOf a.neg (val a.n * lowF b - val b.n * lowF a) (lowF a * lowF b) = a.rat + b.rat :=
  sub_s (lowF_ne a) (lowF_ne b) h hle
theorem sub_F' (h : ¬ a.neg = b.neg) (hle : val a.n * lowF b ≤ val b.n * lowF a) : ratOf b.neg (val b.n * lowF a - val a.n * lowF b) (lowF a * lowF b) = a.rat + b.rat :=
  sub_s' (lowF_ne a) (lowF_ne b) h hle
theorem mul_F : ratOf (a.neg != b.neg) (val a.n * val b.n) (lowF a * lowF b) = a.rat * b.rat := mul_s (lowF_ne a) (lowF_ne b)
theorem inv_F (h : a.rat ≠ 0) : ratOf a.neg (lowF a) (val a.n) = (a.rat)⁻¹ := inv_s (fun e => h (rat_zero_iff.2 e)) (lowF_ne a)
end
def powB (q : Rat) (n : Int) : Rat := if n < 0 then q⁻¹ else q
def powR (q : Rat) (n : Int) : Rat := powB q n ^ n.natAbs
end Go.Ear
namespace Go.Ear
section ops
variable  {n : Nat}    {d : Tmp}  {pos : String} {af : Array Edge} {g : Option (Nat × Bool)}
end ops
end Go.Ear
set_option linter.unusedVariables false
namespace Go.Ear
def Wh (D : Nat) (q : Rat) : Prop := ∃ a : Int, q * (D : Rat) = (a : Rat)
theorem Wh.zero (D : Nat) : Wh D 0 := ⟨0, by rw [Rat.zero_mul]; rfl⟩
theorem Wh.add {D : Nat} {p q : Rat} (h : Wh D p) (k : Wh D q) : Wh D (p + q) := by
  obtain ⟨a, ha⟩ := h; obtain ⟨b, hb⟩ := k
  exact ⟨a + b, by rw [Rat.add_mul, ha, hb, Rat.intCast_add]⟩
theorem Wh.mul {D E : Nat} {p q : Rat} (h : Wh D p) (k : Wh E q) : Wh (D * E) (p * q) := by
  obtain ⟨a, ha⟩ := h; obtain ⟨b, hb⟩ := k
  refine ⟨a * b, ?_⟩
  rw [Rat.intCast_mul, ← ha, ← hb, Rat.natCast_mul]; grind
theorem Wh.up {D : Nat} {q : Rat} (h : Wh D q) (E : Nat) : Wh (D * E) q := by
  obtain ⟨a, ha⟩ := h
  refine ⟨a * E, ?_⟩
  rw [Rat.intCast_mul, ← ha, Rat.natCast_mul, Rat.intCast_natCast]; grind
theorem Wh.of_dvd {D E : Nat} {q : Rat} (h : Wh D q) (d : D ∣ E) : Wh E q := by
  obtain ⟨c, rfl⟩ := d; exact h.up c
theorem num_eq (q : Rat) : q * (q.den : Rat) = ((q.num : Int) : Rat) := by
  have h0 : (q.den : Rat) ≠ 0 := fun e => q.den_nz (by exact_mod_cast e)
  have h1 : q = (q.num : Rat) / (q.den : Rat) := by
    have := Rat.mkRat_self q
    rw [Rat.mkRat_eq_div] at this
    exact this.symm
  have h2 : (q.num : Rat) / (q.den : Rat) * (q.den : Rat) = (q.num : Rat) := by
    rw [Rat.div_def, Rat.mul_assoc, Rat.inv_mul_cancel _ h0, Rat.mul_one]
  rw [← h1] at h2; exact h2
theorem Wh.den (q : Rat) : Wh q.den q := ⟨q.num, num_eq q⟩
theorem Wh.bq {D : Nat} {q : Rat} (h : Wh D q) (hD : 0 < D) (h0 : 0 ≤ q) (h1 : q ≤ 1) : bq q ≤ sz D := by
  obtain ⟨a, ha⟩ := h
  have hD0 : (D : Rat) ≠ 0 := fun e => by
    have : D = 0 := by exact_mod_cast e
    omega
  have hDp : (0 : Rat) < (D : Rat) := by
    have := Rat.natCast_pos.2 hD; exact this
  have hd : q.den ∣ D := by
    have e : q = (a : Rat) / (D : Rat) := by rw [← ha, Rat.div_def, Rat.mul_assoc, Rat.mul_inv_cancel _ hD0, Rat.mul_one]
    have e2 : q = mkRat a D := by rw [Rat.mkRat_eq_div]; exact e
    rw [e2, Rat.den_mkRat, if_neg (by omega)]
    exact Nat.div_dvd_of_dvd (Nat.gcd_dvd_left _ _)
  have hdl : q.den ≤ D := Nat.le_of_dvd hD hd
  have hn : q.num.natAbs ≤ q.den := by
    have hnn : 0 ≤ q.num := Rat.num_nonneg.2 h0
    have hle : q.num ≤ (q.den : Int) := by
      have h2 := num_eq q
      have h3 : (q.num : Rat) ≤ ((q.den : Int) : Rat) := by
        rw [← h2]
        have hdp : (0 : Rat) ≤ (q.den : Rat) := Rat.natCast_nonneg
        have := Rat.mul_le_mul_of_nonneg_right h1 hdp
        rw [Rat.one_mul] at this
        rw [Rat.intCast_natCast]; exact this
      exact_mod_cast h3
    omega
  unfold Go.Ear.bq
  exact Nat.max_le.2 ⟨sz_mono (Nat.le_trans hn hdl), sz_mono hdl⟩
end Go.Ear
namespace Go.Ear
structure Ctx where
  round : Option Nat
  defers : List Deferred
def mkX (X : Ctx) (n : Nat) (ρ : Env) : Act := ⟨Array.ofFn (n := n) fun i => ρ i.val, X.defers⟩
def FX (X : Ctx) : Fence := { Fence.wide with round := X.round }
def toQX (X : Ctx) (n : Nat) (Q : Exit → Env → World → Prop) : Exit → Act → World → Prop := fun e a w => ∃ ρ, a = mkX X n ρ ∧ Q e ρ w
theorem mkX_tmps {X : Ctx} {n : Nat} {ρ : Env} : (mkX X n ρ).tmps = (mk n ρ).tmps := rfl
theorem eval_tmps {a a' : Act} (h : a.tmps = a'.tmps) : a.eval = a'.eval := by
  funext x; cases x <;> simp [Act.eval, h]
theorem eval_mkX {X : Ctx} {n : Nat} {ρ : Env} : (mkX X n ρ).eval = ev n ρ := (eval_tmps mkX_tmps).trans eval_mk'
theorem put_act {t : Array Value} {ds : List Deferred} {d : Option Tmp} {v : Value} : (⟨t, ds⟩ : Act).put d v = ⟨((⟨t, []⟩ : Act).put d v).tmps, ds⟩ := by
  cases d <;> rfl
theorem put_defers {a : Act} {d : Option Tmp} {v : Value} : (a.put d v).defers = a.defers := by cases d <;> rfl
theorem put_mkX {X : Ctx} {n : Nat} {ρ : Env} {d : Option Nat} {v : Value} : (mkX X n ρ).put d v = mkX X n (updO ρ d v) := by
  have h := put_mk (n := n) (ρ := ρ) (d := d) (v := v)
  unfold mkX mk at *
  rw [put_act, h]
def WpX (X : Ctx) (P : Program) (n : Nat) (c : Code) (Q : Exit → Env → World → Prop) (ρ : Env) (w : World) : Prop := c.wpIn (FX X) 0 P (toQX X n Q) (mkX X n ρ) w
def noDefer (o : Oper) : Bool := match o.op with | .defer _ => false | _ => true
theorem semAt_plain {X : Ctx} {ρ : Operand → Value} {o : Oper} (h : noDefer o = true) : Oper.semAt (FX X).round ρ o = execOp ρ o := by
  show Oper.semAt X.round ρ o = _
  cases hr : X.round with
  | none => rfl
  | some l => exact Oper.semAt_some l ρ o (fun c e => by unfold noDefer at h; rw [e] at h; cases h)
theorem calls_in {X : Ctx} {k : Nat} {P : Program} {f : FuncId} {args : Array Value} {w : World} {R : Ending → World → Prop} (h : Calls P f args w R) : CallsIn (FX X) k P f args w R :=
  (callsIn_wide (n := k)).2 h
theorem rows_in {X : Ctx} {k : Nat} {P : Program} {row : String} {args : Array Value} {w : World} {R : Value → World → Prop} (h : Go.Rows P row args w R) : RowsIn (FX X) k P row args w R := by
  intro c cs _
  obtain ⟨v, w', r, s⟩ := h c cs
  exact ⟨v, w', r, stepsIn_wide.2 s⟩
theorem opX_of {X : Ctx} {P : Program} {n : Nat} {o : Oper} {ρ : Env} {w : World} {K : Env → World → Prop} {Q : Exit → Act → World → Prop} (hp : noDefer o = true) (h : OpW P n o ρ w K) :
    o.wpIn (FX X) 0 P (mkX X n ρ) w (fun a w' => ∃ ρ', a = mkX X n ρ' ∧ K ρ' w') Q := by
  refine ⟨fun _ _ => trivial, ?_⟩
  rw [eval_mkX, semAt_plain hp]
  unfold OpW Oper.wp at h
  rw [eval_mk'] at h
  have key : ∀ (v : Value) (w' : World), (∃ ρ', (mk n ρ).put o.dst v = mk n ρ' ∧ K ρ' w') → ∃ ρ', (mkX X n ρ).put o.dst v = mkX X n ρ' ∧ K ρ' w' := by
    rintro v w' ⟨ρ', e, k⟩
    refine ⟨ρ', ?_, k⟩
    unfold mkX mk at *
    rw [put_act, e]
  revert h
  generalize (execOp (ev n ρ) o).run P w = r
  intro h
  cases r with
  | halt hh w' => cases hh <;> exact h.elim
  | ok nx w' =>
    cases nx with
    | value v => exact key _ _ h
    | skip => exact key _ _ h
    | defer d =>
      obtain ⟨ρ', e, _⟩ := h
      have := congrArg Act.defers e
      rw [put_defers] at this
      cases this
    | enter f args =>
      refine ⟨(fun hx => by cases hx), calls_in (Calls.mono h ?_)⟩
      intro e w' he
      cases e with
      | returned v => exact key _ _ he
      | panicked c => exact he.elim
      | outgrown => obtain ⟨_, _, h⟩ := he; exact h.elim
    | row rw args => exact ⟨(fun hx => by cases hx), rows_in (Go.Rows.mono h fun v w'' hh => key _ _ hh)⟩
    | _ => exact h.elim
theorem wpListX_of_Ops {X : Ctx} {P : Program} {n : Nat} {ops : Array Oper} {K : Env → World → Prop} {Q : Exit → Env → World → Prop} (hKQ : ∀ ρ w, K ρ w → Q .normal ρ w)
    (l : List Oper) (hl : l.all noDefer = true) : ∀ ρ w, Ops P n ops K l ρ w → wpListIn (FX X) 0 P ops (toQX X n Q) l (mkX X n ρ) w := by
  induction l with
  | nil => intro ρ w h; unfold Ops at h; exact ⟨ρ, rfl, hKQ _ _ h⟩
  | cons o rest ih =>
    intro ρ w h
    rw [List.all_cons, Bool.and_eq_true] at hl
    unfold wpListIn
    unfold Ops at h
    rw [mkX_tmps]
    split
    · rename_i hw
      rw [if_pos hw] at h
      have := opX_of (X := X) (Q := toQX X n Q) hl.1 h
      refine ⟨this.1, ?_⟩
      have h2 := this.2
      clear this
      revert h2
      generalize (Oper.semAt (FX X).round (mkX X n ρ).eval o).run P w = r
      intro h2
      cases r with
      | halt hh w' => cases hh <;> exact h2
      | ok nx w' =>
        cases nx with
        | value v => obtain ⟨ρ', e, k⟩ := h2; exact (by rw [e]; exact ih hl.2 _ _ k : wpListIn (FX X) 0 P ops (toQX X n Q) rest ((mkX X n ρ).put o.dst v) w')
        | skip => obtain ⟨ρ', e, k⟩ := h2; exact (by rw [e]; exact ih hl.2 _ _ k : wpListIn (FX X) 0 P ops (toQX X n Q) rest ((mkX X n ρ).put o.dst undef) w')
        | defer d =>
          obtain ⟨ρ', e, k⟩ := h2
          exact (by rw [e]; exact ih hl.2 _ _ k : wpListIn (FX X) 0 P ops (toQX X n Q) rest (({ mkX X n ρ with defers := d :: (mkX X n ρ).defers } : Act).put o.dst undef) w')
        | enter f args =>
          obtain ⟨h1, h2⟩ := h2
          refine ⟨h1, CallsIn.mono h2 ?_⟩
          intro e w' he
          cases e with
          | returned v => obtain ⟨ρ', e, k⟩ := he; exact (by rw [e]; exact ih hl.2 _ _ k : wpListIn (FX X) 0 P ops (toQX X n Q) rest ((mkX X n ρ).put o.dst v) w')
          | panicked c => exact he
          | outgrown => exact he
        | row rw args =>
          obtain ⟨h1, h2⟩ := h2
          refine ⟨h1, Go.RowsIn.mono h2 ?_⟩
          rintro v w' ⟨ρ', e, k⟩
          rw [e]; exact ih hl.2 _ _ k
        | round l f tmps assign body =>
          obtain ⟨h1, h2⟩ := h2
          refine ⟨h1, RoundIn.mono h2 ?_⟩
          intro e w' he
          cases e with
          | returned v => obtain ⟨ρ', e, k⟩ := he; exact (by rw [e]; exact ih hl.2 _ _ k : wpListIn (FX X) 0 P ops (toQX X n Q) rest ((mkX X n ρ).put o.dst v) w')
          | panicked c => exact he
          | outgrown => exact he
        | _ => exact h2
    · rename_i hw
      rw [if_neg hw] at h
      rw [put_mkX]
      exact ⟨fun _ _ => trivial, ih hl.2 _ _ h⟩
def onlyN (K : Env → World → Prop) : Exit → Env → World → Prop
  | .normal, ρ, w => K ρ w
  | _, _, _ => False
theorem opsIn_defers {P : Program} {n : Nat} {ops : Array Oper} {K : Env → World → Prop} : ∀ (ls : List Nat) (a : Act) (w : World), wpOps P ops (toQ n (onlyN K)) ls a w → a.defers = []
  | [], a, w, h => by obtain ⟨ρ, rfl, _⟩ := h; rfl
  | i :: ls, a, w, h => by
    simp only [wpOps] at h
    cases ho : ops[i]? with
    | none => rw [ho] at h; exact opsIn_defers ls a w h
    | some o =>
      rw [ho] at h
      simp only at h
      split at h
      · rcases h with h | ⟨_, _, _, h⟩
        · unfold Oper.wp at h
          revert h
          generalize (execOp a.eval o).run P w = r
          intro h
          cases r with
          | halt hh w' => cases hh <;> first | (obtain ⟨_, _, h⟩ := h; exact h.elim) | exact h.elim
          | ok nx w' =>
            cases nx with
            | value v => have := opsIn_defers ls _ _ h; rwa [put_defers] at this
            | skip => have := opsIn_defers ls _ _ h; rwa [put_defers] at this
            | defer d => have := opsIn_defers ls _ _ h; rw [put_defers] at this; cases this
            | enter f args =>
              obtain ⟨e, w', fr, hR, _⟩ := h []
              cases e with
              | returned v => have := opsIn_defers ls _ _ hR; rwa [put_defers] at this
              | panicked c => obtain ⟨_, _, h⟩ := hR; exact h.elim
              | outgrown => obtain ⟨_, _, _, _, h⟩ := hR; exact h.elim
            | row rr args =>
              obtain ⟨v, w', hR, _⟩ := h default []
              have := opsIn_defers ls _ _ hR; rwa [put_defers] at this
            | _ => exact h.elim
        · obtain ⟨_, _, h⟩ := h; exact h.elim
      · have := opsIn_defers ls _ _ h; rwa [put_defers] at this
theorem opsIn_of {X : Ctx} {P : Program} {n : Nat} {ops : Array Oper} {K : Env → World → Prop} (hp : ops.toList.all noDefer = true) : ∀ (ls : List Nat) (t : Array Value) (w : World),
    wpOps P ops (toQ n (onlyN K)) ls ⟨t, []⟩ w → wpOpsIn (FX X) 0 P ops (toQX X n (onlyN K)) ls ⟨t, X.defers⟩ w
  | [], t, w, h => by
    obtain ⟨ρ, e, k⟩ := h
    refine ⟨ρ, ?_, k⟩
    unfold mkX; unfold mk at e; cases e; rfl
  | i :: ls, t, w, h => by
    simp only [wpOps] at h
    simp only [wpOpsIn]
    cases ho : ops[i]? with
    | none => rw [ho] at h; exact opsIn_of hp ls t w h
    | some o =>
      have hno : noDefer o = true := List.all_eq_true.1 hp o (List.mem_of_getElem? (i := i) (by simpa using ho))
      have go : ∀ (v : Value) (w' : World), wpOps P ops (toQ n (onlyN K)) ls ((⟨t, []⟩ : Act).put o.dst v) w' → wpOpsIn (FX X) 0 P ops (toQX X n (onlyN K)) ls ((⟨t, X.defers⟩ : Act).put o.dst v) w' := by
        intro v w' hh
        rw [put_act] at hh ⊢
        exact opsIn_of hp ls _ w' hh
      rw [ho] at h
      simp only at h ⊢
      split at h
      · rename_i hw
        rw [if_pos hw]
        refine ⟨fun _ _ => trivial, ?_⟩
        rw [semAt_plain hno, eval_tmps (a := ⟨t, X.defers⟩) (a' := ⟨t, []⟩) rfl]
        rcases h with h | ⟨_, _, _, h⟩
        · unfold Oper.wp at h
          revert h
          generalize (execOp (⟨t, []⟩ : Act).eval o).run P w = r
          intro h
          cases r with
          | halt hh w' => cases hh <;> first | (obtain ⟨_, _, h⟩ := h; exact h.elim) | exact h.elim
          | ok nx w' =>
            cases nx with
            | value v => exact go _ _ h
            | skip => exact go _ _ h
            | defer d => have := opsIn_defers ls _ _ h; rw [put_defers] at this; cases this
            | enter f args =>
              refine ⟨(fun hx => by cases hx), calls_in (Calls.mono h ?_)⟩
              intro e w' he
              cases e with
              | returned v => exact go _ _ he
              | panicked c => obtain ⟨_, _, h⟩ := he; exact h.elim
              | outgrown => obtain ⟨_, _, _, _, h⟩ := he; exact h.elim
            | row rr args => exact ⟨(fun hx => by cases hx), rows_in (Go.Rows.mono h fun v w'' hh => go _ _ hh)⟩
            | _ => exact h.elim
        · obtain ⟨_, _, h⟩ := h; exact h.elim
      · rename_i hw
        rw [if_neg hw]
        exact ⟨fun _ _ => trivial, go _ _ h⟩
section rules
variable {X : Ctx} {P : Program} {n : Nat} {Q : Exit → Env → World → Prop} {ρ : Env} {w : World}
theorem WpX.mono {c : Code} {Q' : Exit → Env → World → Prop} (h : WpX X P n c Q ρ w) (hq : ∀ e ρ w, Q e ρ w → Q' e ρ w) : WpX X P n c Q' ρ w :=
  wpIn_mono h fun e _ w ⟨ρ, ea, q⟩ => ⟨ρ, ea, hq e ρ w q⟩
theorem WpX.skip (h : Q .normal ρ w) : WpX X P n .skip Q ρ w := wpIn_skip ⟨ρ, rfl, h⟩
theorem WpX.label {l : Nat} (h : Q .normal ρ w) : WpX X P n (.label l) Q ρ w := wpIn_label ⟨ρ, rfl, h⟩
theorem WpX.exit {id : Nat} (h : Q (.exit id) ρ w) : WpX X P n (.exit id) Q ρ w := wpIn_exit ⟨ρ, rfl, h⟩
theorem WpX.ret (h : Q .ret ρ w) : WpX X P n .ret Q ρ w := wpIn_ret ⟨ρ, rfl, h⟩
theorem WpX.seq {x y : Code} (h : WpX X P n x (thenQ (WpX X P n y Q) Q) ρ w) : WpX X P n (.seq x y) Q ρ w := by
  refine wpIn_seq (wpIn_mono h ?_)
  rintro e a w ⟨ρ', rfl, hq⟩
  cases e <;> first | exact hq | exact ⟨_, rfl, hq⟩
theorem WpX.cond {c : Operand} {x y : Code} {t : Bool} (hc : ev n ρ c = .bool t) (ht : t = true → WpX X P n x Q ρ w) (hf : t = false → WpX X P n y Q ρ w) :
    WpX X P n (.cond c x y) Q ρ w := wpIn_cond_split (by rw [eval_mkX, hc]) ht hf
theorem WpX.cond_t {c : Operand} {x y : Code} (hc : ev n ρ c = .bool true) (h : WpX X P n x Q ρ w) : WpX X P n (.cond c x y) Q ρ w :=
  wpIn_cond_true (by rw [eval_mkX, hc]) h
theorem WpX.cond_f {c : Operand} {x y : Code} (hc : ev n ρ c = .bool false) (h : WpX X P n y Q ρ w) : WpX X P n (.cond c x y) Q ρ w :=
  wpIn_cond_false (by rw [eval_mkX, hc]) h
theorem WpX.block {id : Nat} {c : Code} (h : WpX X P n c (blockQ id Q) ρ w) : WpX X P n (.block id c) Q ρ w := by
  refine wpIn_block (wpIn_mono h ?_)
  rintro e a w ⟨ρ', rfl, hq⟩
  cases e with
  | exit id' =>
    simp only [Exit.inBlock, blockQ] at hq ⊢
    by_cases hid : id' = id
    · subst hid; simp at hq; simp; exact ⟨_, rfl, hq⟩
    · have : Nat.beq id' id = false := beq_ne hid
      rw [this] at hq
      rw [if_neg hid]; exact ⟨_, rfl, hq⟩
  | _ => exact ⟨_, rfl, hq⟩
theorem WpX.region {id : Nat} {l : List Oper} (hd : l.all noDefer = true) (h : Ops P n l.toArray (Q .normal) l ρ w) : WpX X P n (.region id l.toArray false) Q ρ w :=
  wpIn_region_lit (wpListX_of_Ops (fun _ _ h => h) l hd ρ w h)
theorem WpX.loop {σ : Type} {c : Code} (I : σ → Env → World → Prop) (μ : σ → Nat) (s₀ : σ) (h₀ : I s₀ ρ w)
    (round : ∀ s ρ w, I s ρ w → WpX X P n c (thenQ (fun ρ' w' => ∃ s', I s' ρ' w' ∧ μ s' < μ s) Q) ρ w) : WpX X P n (.loop c) Q ρ w := by
  refine wpIn_loop_ghost (fun k a w => ∃ s ρ, a = mkX X n ρ ∧ I s ρ w ∧ μ s = k) (μ s₀) ⟨s₀, ρ, rfl, h₀, rfl⟩ ?_
  rintro k a w ⟨s, ρ, rfl, hI, rfl⟩
  refine wpIn_mono (round s ρ w hI) ?_
  rintro e a w ⟨ρ', rfl, hq⟩
  cases e with
  | normal => obtain ⟨s', hI', hlt⟩ := hq; exact ⟨μ s', hlt, s', ρ', rfl, hI', rfl⟩
  | _ => exact ⟨_, rfl, hq⟩
theorem WpX.cut {c : Code} {N : Env → World → Prop} (R : Env → World → Prop) (h : WpX X P n c (thenQ R Q) ρ w) (k : ∀ ρ w, R ρ w → N ρ w) : WpX X P n c (thenQ N Q) ρ w := by
  refine h.mono ?_
  intro e ρ w hq
  cases e <;> first | exact k _ _ hq | exact hq
theorem WpX.draw {id : Nat} {l : List Oper} {K : Env → World → Prop} (hd : l.all noDefer = true)
    (h : ∀ t, wpOps P l.toArray (toQ n (onlyN K)) (Region.schedule (P.follows .mixedOrders) l.toArray t) (mk n ρ) { w with drawn := w.drawn + 1 }) (hk : ∀ ρ w, K ρ w → Q .normal ρ w) : WpX X P n (.region id l.toArray true) Q ρ w := by
  have h2 : WpX X P n (.region id l.toArray true) (onlyN K) ρ w := wpIn_region_draw fun t => opsIn_of (by simpa using hd) _ _ _ (h t)
  exact h2.mono fun e ρ w h => by cases e <;> first | exact hk _ _ h | exact h.elim
theorem WpX.scope0 {c : Code} (h : WpX ⟨none, []⟩ P n c (scopeQ Q) ρ w) : WpX ⟨none, []⟩ P n (.scope c) Q ρ w := wpIn_wide.2 (Wp.out (Wp.scope (P := P) (n := n) (Q := Q) (ρ := ρ) (w := w) (Wp.of (wpIn_wide.1 h))))
end rules
def IterK (P : Program) (gf : Nat) (lb : Array Value) (idx : Nat → Value) (len : Nat) (B : World → Prop) : Prop :=
  ∀ (l : Nat) (J : Nat → World → Prop) (W : World), (∀ k W, J k W → B W) →
    (∀ k W, k < len → J k W → YieldAt Fence.wide 0 P l #[idx k] W fun e W' => e = .returned (.bool true) ∧ J (k + 1) W') → J 0 W →
    CallsIn Fence.wide 0 P gf (#[.func (.yield l) #[] #[]] ++ lb) W fun e W' => (∃ v, e = .returned v) ∧ J len W'
theorem Put.obj {w : World} {l : Nat} {o : Obj} (h : l < w.heap.size) : Put w (w.putObj l o) l o :=
  ⟨rfl, rfl, rfl, World.putObj_size, World.putObj_heap_same h, fun _ hi => World.putObj_heap_other hi, Nat.le_refl _⟩
abbrev X0 : Ctx := ⟨none, []⟩
theorem WpX.yield {P : Program} {n : Nat} {Q : Exit → Env → World → Prop} {ρ : Env} {w : World} {l : Nat} {x : Value} {d1 d2 d3 : Tmp} {o1 o2 f2 : Operand} {ty1 ty2 ty3 : TypeId} {p1 p2 p3 : String} {a1 a2 a3 : Array Edge} {ts : Array TypeId} {id : Nat} {rest : List Oper}
    {R : Ending → World → Prop} (hr : rest.all noDefer = true) (e1 : ev n ρ o1 = .func (.yield l) #[] #[]) (e2 : ev n (upd ρ d1 (.func (.yield l) #[] #[])) o2 = x) 
    (hf : ev n (upd (upd ρ d1 (.func (.yield l) #[] #[])) d2 x) f2 = .func (.yield l) #[] #[]) (hx : ev n (upd (upd ρ d1 (.func (.yield l) #[] #[])) d2 x) (.tmp d2) = x)
    (hy : YieldAt Fence.wide 0 P l #[x] w R)
    (hk : ∀ e w', R e w' → ∃ v, e = .returned v ∧ Ops P n (⟨some d1, .move o1, ty1, p1, a1, none⟩ :: ⟨some d2, .move o2, ty2, p2, a2, none⟩ :: ⟨some d3, .call ⟨.value f2, #[.tmp d2], ts⟩, ty3, p3, a3, none⟩ :: rest).toArray (Q .normal) rest (upd (upd (upd ρ d1 (.func (.yield l) #[] #[])) d2 x) d3 v) w') :
    WpX X0 P n (.region id (⟨some d1, .move o1, ty1, p1, a1, none⟩ :: ⟨some d2, .move o2, ty2, p2, a2, none⟩ :: ⟨some d3, .call ⟨.value f2, #[.tmp d2], ts⟩, ty3, p3, a3, none⟩ :: rest).toArray false) Q ρ w := by
  refine wpIn_region_lit ?_
  generalize hops : (⟨some d1, .move o1, ty1, p1, a1, none⟩ :: ⟨some d2, .move o2, ty2, p2, a2, none⟩ :: ⟨some d3, .call ⟨.value f2, #[.tmp d2], ts⟩, ty3, p3, a3, none⟩ :: rest : List Oper).toArray = ops at hk ⊢
  unfold wpListIn
  rw [if_pos (show Region.wanted ⟨some d1, .move o1, ty1, p1, a1, none⟩ _ = true from rfl)]
  refine ⟨fun _ _ => trivial, ?_⟩
  rw [eval_mkX, show Oper.semAt (FX X0).round (ev n ρ) ⟨some d1, .move o1, ty1, p1, a1, none⟩ = execOp (ev n ρ) ⟨some d1, .move o1, ty1, p1, a1, none⟩ from rfl,
    show (execOp (ev n ρ) ⟨some d1, .move o1, ty1, p1, a1, none⟩).run P w = .ok (.value (.func (.yield l) #[] #[])) w from by simp [execOp, e1]]
  show wpListIn _ _ _ _ _ _ ((mkX X0 n ρ).put (some d1) _) w
  rw [put_mkX]
  unfold wpListIn
  rw [if_pos (show Region.wanted ⟨some d2, .move o2, ty2, p2, a2, none⟩ _ = true from rfl)]
  refine ⟨fun _ _ => trivial, ?_⟩
  rw [eval_mkX]
  rw [show (Oper.semAt (FX X0).round (ev n (updO ρ (some d1) (.func (.yield l) #[] #[]))) ⟨some d2, .move o2, ty2, p2, a2, none⟩).run P w = .ok (.value x) w from by
    rw [semAt_plain rfl]
    simp only [updO]
    simp [execOp, e2]]
  show wpListIn _ _ _ _ _ _ ((mkX X0 n _).put (some d2) _) w
  rw [put_mkX]
  unfold wpListIn
  rw [if_pos (show Region.wanted ⟨some d3, .call ⟨.value f2, #[.tmp d2], ts⟩, ty3, p3, a3, none⟩ _ = true from rfl)]
  refine ⟨fun _ _ => trivial, ?_⟩
  obtain ⟨fn, tmps, assign, body, hyr, hround⟩ := hy
  rw [eval_mkX]
  rw [show (Oper.semAt (FX X0).round (ev n (updO (updO ρ (some d1) (.func (.yield l) #[] #[])) (some d2) x)) ⟨some d3, .call ⟨.value f2, #[.tmp d2], ts⟩, ty3, p3, a3, none⟩).run P w = .ok (.round l fn tmps assign body) w from by
    rw [semAt_plain rfl]
    simp only [updO]
    simp [execOp, resolve, hf, hx, invoke, hyr, go_sem]]
  refine ⟨(fun h => by cases h), RoundIn.mono (F := FX X0) hround ?_⟩
  intro e w' he
  obtain ⟨v, rfl, hkk⟩ := hk e w' he
  show wpListIn _ _ _ _ _ _ ((mkX X0 n _).put (some d3) v) w'
  rw [put_mkX]
  exact wpListX_of_Ops (fun _ _ h => h) rest hr _ _ hkk
end Go.Ear
set_option linter.unusedVariables false
namespace Go.E3
open Go Go.Ear
structure KR where
  R : PH → Value → Prop
  one : ∀ {h v}, R h v → v.oneCell' = true
  mono : ∀ {h h' v}, h.le h' → R h v → R h' v
inductive SV where
  | cv (v : Value)
  | kv (r : KR)
  | ag (l : List SV)
  | tp (l : List SV)
  | pk (l : List SV) (o : Nat)
  | cn (c : Bool) (s : SV)
mutual
def den (h : PH) : SV → Value → Prop
  | .cv v, x => x = v
  | .kv r, x => r.R h x
  | .ag l, x => ∃ vs, x = .agg vs.toArray ∧ denL h l vs
  | .tp l, x => ∃ vs, x = .tuple vs.toArray ∧ denL h l vs
  | .pk l o, x => ∃ b off arr t fz, h b = some (.cells arr t fz) ∧ x = .pointer (some ⟨b, off + o, none⟩) ∧ off + l.length ≤ arr.size ∧ denL h l (cut arr off l.length)
  | .cn c s, x => (c = true → den h s x) ∧ (c = false → x = undef)
def denL (h : PH) : List SV → List Value → Prop
  | [], [] => True
  | s :: l, v :: vs => den h s v ∧ denL h l vs
  | _, _ => False
end
mutual
theorem den.mono {h h' : PH} (e : h.le h') : ∀ {s : SV} {x : Value}, den h s x → den h' s x
  | .cv v, x, u => u
  | .kv r, x, u => r.mono e u
  | .ag l, x, ⟨vs, a, b⟩ => ⟨vs, a, denL.mono e b⟩
  | .tp l, x, ⟨vs, a, b⟩ => ⟨vs, a, denL.mono e b⟩
  | .pk l o, x, ⟨b, off, arr, t, fz, a1, a2, a3, a4⟩ => ⟨b, off, arr, t, fz, e _ _ a1, a2, a3, denL.mono e a4⟩
  | .cn c s, x, ⟨a, b⟩ => ⟨fun q => den.mono e (a q), b⟩
theorem denL.mono {h h' : PH} (e : h.le h') : ∀ {l : List SV} {vs : List Value}, denL h l vs → denL h' l vs
  | [], [], _ => trivial
  | _ :: _, _ :: _, u => ⟨den.mono e u.1, denL.mono e u.2⟩
end
theorem denL.length {h : PH} : ∀ {l : List SV} {vs : List Value}, denL h l vs → vs.length = l.length
  | [], [], _ => rfl
  | _ :: _, _ :: _, u => by simp [denL.length u.2]
theorem denL.at {h : PH} : ∀ {l : List SV} {vs : List Value}, denL h l vs → ∀ {i : Nat} {s : SV}, l[i]? = some s → ∃ v, vs[i]? = some v ∧ den h s v
  | [], [], _, i, s, e => by simp at e
  | _ :: _, v :: _, u, 0, s, e => by simp at e; subst e; exact ⟨v, rfl, u.1⟩
  | _ :: _, _ :: _, u, i + 1, s, e => by simpa using denL.at u.2 (by simpa using e)
theorem denL.take {h : PH} : ∀ {l : List SV} {vs : List Value}, denL h l vs → ∀ m, denL h (l.take m) (vs.take m)
  | [], [], _, m => by simp [denL]
  | _ :: _, _ :: _, u, 0 => trivial
  | _ :: _, _ :: _, u, m + 1 => ⟨u.1, denL.take u.2 m⟩
theorem denL.drop {h : PH} : ∀ {l : List SV} {vs : List Value}, denL h l vs → ∀ m, denL h (l.drop m) (vs.drop m)
  | [], [], _, m => by simp [denL]
  | _ :: _, _ :: _, u, 0 => u
  | _ :: _, _ :: _, u, m + 1 => denL.drop u.2 m
theorem denL.app {h : PH} : ∀ {l : List SV} {vs : List Value} {l2 : List SV} {vs2 : List Value}, denL h l vs → denL h l2 vs2 → denL h (l ++ l2) (vs ++ vs2)
  | [], [], _, _, _, v => v
  | _ :: _, _ :: _, _, _, u, v => ⟨u.1, denL.app u.2 v⟩
theorem denL.set {h : PH} : ∀ {l : List SV} {vs : List Value}, denL h l vs → ∀ {i : Nat} {s : SV} {v : Value}, den h s v → denL h (l.set i s) (vs.set i v)
  | [], [], _, _, _, _, _ => trivial
  | _ :: _, _ :: _, u, 0, _, _, d => ⟨d, u.2⟩
  | _ :: _, _ :: _, u, i + 1, _, _, d => ⟨u.1, denL.set u.2 d⟩
def SV.one : SV → Bool
  | .cv v => v.oneCell'
  | .kv _ => true
  | .pk .. => true
  | _ => false
theorem den.one {h : PH} {s : SV} {x : Value} (u : den h s x) (o : s.one = true) : x.oneCell' = true := by
  cases s with
  | cv v => cases u; exact o
  | kv r => exact r.one u
  | pk l o => obtain ⟨b, off, arr, t, fz, _, rfl, _⟩ := u; rfl
  | _ => cases o
theorem denL.one {h : PH} : ∀ {l : List SV} {vs : List Value}, denL h l vs → l.all SV.one = true → ∀ c ∈ vs, c.oneCell' = true
  | [], [], _, _, c, hc => by cases hc
  | s :: l, v :: vs, u, o, c, hc => by
    simp only [List.all_cons, Bool.and_eq_true] at o
    rcases List.mem_cons.1 hc with rfl | hc
    · exact den.one u.1 o.1
    · exact denL.one u.2 o.2 c hc
abbrev EL := List (Nat × SV)
def EnvOk (h : PH) (ρ : Env) : EL → Prop
  | [] => True
  | (s, S) :: l => den h S (ρ s) ∧ EnvOk h ρ l
theorem EnvOk.mono {h h' : PH} {ρ : Env} (e : h.le h') : ∀ {l : EL}, EnvOk h ρ l → EnvOk h' ρ l
  | [], _ => trivial
  | _ :: _, u => ⟨u.1.mono e, EnvOk.mono e u.2⟩
theorem EnvOk.ext {h : PH} {ρ ρ' : Env} : ∀ {l : EL}, (∀ p ∈ l, ρ p.1 = ρ' p.1) → EnvOk h ρ l → EnvOk h ρ' l
  | [], _, _ => trivial
  | p :: _, e, u => ⟨by rw [← e p (List.mem_cons_self ..)]; exact u.1, EnvOk.ext (fun q hq => e q (List.mem_cons_of_mem _ hq)) u.2⟩
def nIn (d : Nat) : EL → Bool
  | [] => true
  | (s, _) :: l => !Nat.beq s d && nIn d l
theorem EnvOk.upd {h : PH} {ρ : Env} {d : Nat} {v : Value} : ∀ {l : EL}, nIn d l = true → EnvOk h ρ l → EnvOk h (upd ρ d v) l
  | [], _, _ => trivial
  | (s, S) :: l, n, u => by
    unfold nIn at n
    rw [Bool.and_eq_true, Bool.not_eq_true'] at n
    refine ⟨?_, EnvOk.upd n.2 u.2⟩
    rw [upd_ne _ _ (fun e => by subst e; rw [beq_self] at n; exact Bool.noConfusion n.1)]
    exact u.1
structure Res where
  bor : Bool := false
  fp : Nat → Prop
  pr : PH → World → Prop
  st : ∀ {h w h' w'}, h.le h' → (∀ i, fp i → w'.heap[i]? = w.heap[i]?) → (∀ i, fp i → h' i = none) → pr h w → pr h' w'
  fz : PH → Prop
  fzm : ∀ {h h'}, h.le h' → fz h → fz h'
  frz : ∀ {h0 : PH} {w0 : World} {h : PH} {w : World}, Gr h0 w0 h w → pr h w → (∀ i, fp i → h i = none ∧ (bor = false → w0.heap.size ≤ i)) → ∃ h', Gr h0 w0 h' w ∧ h.le h' ∧ (∀ i, h i = none → ¬ fp i → h' i = none) ∧ fz h'
def OwnB (w0 : World) : List Res → PH → World → Prop
  | [], _, _ => True
  | r :: B, h, w => r.pr h w ∧ (∀ i, r.fp i → h i = none ∧ (r.bor = false → w0.heap.size ≤ i) ∧ i < w.heap.size) ∧ (∀ r' ∈ B, ∀ i, r.fp i → ¬ r'.fp i) ∧ OwnB w0 B h w
section
variable {w0 : World} {h h' : PH} {w w' : World} {B : List Res} {r r' : Res} {j : Nat}
theorem OwnB.foot : ∀ {B : List Res}, OwnB w0 B h w → ∀ r ∈ B, ∀ i, r.fp i → h i = none ∧ (r.bor = false → w0.heap.size ≤ i) ∧ i < w.heap.size
  | _ :: _, o, r, hr, i, hi => by
    rcases List.mem_cons.1 hr with rfl | hr
    · exact o.2.1 i hi
    · exact OwnB.foot o.2.2.2 r hr i hi
theorem OwnB.keep (l : h.le h') (hs : w.heap.size ≤ w'.heap.size) : ∀ {B : List Res}, OwnB w0 B h w → (∀ r ∈ B, ∀ i, r.fp i → w'.heap[i]? = w.heap[i]? ∧ h' i = none) → OwnB w0 B h' w'
  | [], _, _ => trivial
  | r :: _, o, hk => ⟨r.st l (fun i hi => (hk r (List.mem_cons_self ..) i hi).1) (fun i hi => (hk r (List.mem_cons_self ..) i hi).2) o.1, fun i hi => ⟨(hk r (List.mem_cons_self ..) i hi).2, (o.2.1 i hi).2.1, Nat.lt_of_lt_of_le (o.2.1 i hi).2.2 hs⟩, o.2.2.1,
      OwnB.keep l hs o.2.2.2 fun r' hr' => hk r' (List.mem_cons_of_mem _ hr')⟩
theorem OwnB.grow (o : OwnB w0 B h w) (g : Gr h w h' w') : OwnB w0 B h' w' :=
  o.keep g.le g.ext.size fun r hr i hi => by
    have := o.foot r hr i hi
    exact ⟨g.ext.block i this.2.2, g.noneAt this.2.2 this.1⟩
theorem OwnB.at : ∀ {B : List Res}, OwnB w0 B h w → ∀ (j : Nat) {r : Res}, B[j]? = some r → r.pr h w ∧ ∀ i, r.fp i → h i = none ∧ (r.bor = false → w0.heap.size ≤ i) ∧ i < w.heap.size
  | [], _, j, _, e => by simp at e
  | _ :: _, o, 0, _, e => by simp at e; exact e ▸ ⟨o.1, o.2.1⟩
  | _ :: _, o, j + 1, _, e => OwnB.at o.2.2.2 j (by simpa using e)
theorem OwnB.apart : ∀ {B : List Res}, OwnB w0 B h w → ∀ (j : Nat) {r : Res}, B[j]? = some r → ∀ r' ∈ B.eraseIdx j, ∀ i, r.fp i → ¬ r'.fp i
  | [], _, j, _, e => by simp at e
  | _ :: _, o, 0, _, e => by simp at e; subst e; exact fun r' hr' => o.2.2.1 r' (by simpa using hr')
  | x :: B, o, j + 1, r, e => by
    intro r' hr' i hi
    have e' : B[j]? = some r := by simpa using e
    rw [List.eraseIdx_cons_succ] at hr'
    rcases List.mem_cons.1 hr' with rfl | hr'
    · exact fun q => o.2.2.1 r (List.mem_of_getElem? e') i q hi
    · exact OwnB.apart o.2.2.2 j e' r' hr' i hi
theorem OwnB.erase : ∀ {B : List Res}, OwnB w0 B h w → ∀ (j : Nat), OwnB w0 (B.eraseIdx j) h w
  | [], o, _ => by simpa using o
  | _ :: _, o, 0 => by simpa using o.2.2.2
  | x :: B, o, j + 1 => by
    rw [List.eraseIdx_cons_succ]
    exact ⟨o.1, o.2.1, fun r' hr' => o.2.2.1 r' (List.mem_of_mem_eraseIdx hr'), o.2.2.2.erase j⟩
theorem OwnB.set (nb : r.bor = false) (l : h.le h') (hs : w.heap.size ≤ w'.heap.size) (hn : ∀ r ∈ B.eraseIdx j, ∀ i, r.fp i → w'.heap[i]? = w.heap[i]? ∧ h' i = none) {r' : Res} (hp : r'.pr h' w') (hf : ∀ i, r'.fp i → r.fp i ∧ h' i = none ∨ (w.heap.size ≤ i ∧ i < w'.heap.size ∧ h' i = none))
    (o : OwnB w0 B h w) (hw : w0.heap.size ≤ w.heap.size) (e : B[j]? = some r) : OwnB w0 (B.set j r') h' w' := by
  induction B generalizing j with
  | nil => simp at e
  | cons x B ih =>
    cases j with
    | zero =>
      simp at e; subst e
      simp only [List.eraseIdx_cons_zero] at hn
      refine ⟨hp, fun i hi => ?_, fun r2 hr2 i hi q => ?_, OwnB.keep l hs o.2.2.2 hn⟩
      · rcases hf i hi with ⟨a, b⟩ | ⟨a, b, c⟩
        · exact ⟨b, fun _ => (o.2.1 i a).2.1 nb, Nat.lt_of_lt_of_le (o.2.1 i a).2.2 hs⟩
        · exact ⟨c, fun _ => by omega, b⟩
      · rcases hf i hi with ⟨a, _⟩ | ⟨a, _, _⟩
        · exact o.2.2.1 r2 hr2 i a q
        · have := (o.2.2.2.foot r2 hr2 i q).2.2; omega
    | succ j =>
      have e' : B[j]? = some r := by simpa using e
      rw [List.eraseIdx_cons_succ] at hn
      have hx := hn x (List.mem_cons_self ..)
      refine ⟨x.st l (fun i hi => (hx i hi).1) (fun i hi => (hx i hi).2) o.1, fun i hi => ⟨(hx i hi).2, (o.2.1 i hi).2.1, Nat.lt_of_lt_of_le (o.2.1 i hi).2.2 hs⟩, fun r2 hr2 i hi q => ?_, ih (fun r hr => hn r (List.mem_cons_of_mem _ hr)) o.2.2.2 e'⟩
      rcases List.mem_or_eq_of_mem_set hr2 with hr2 | rfl
      · exact o.2.2.1 r2 hr2 i hi q
      · rcases hf i q with ⟨a, _⟩ | ⟨a, _, _⟩
        · exact o.2.2.1 r (List.mem_of_getElem? e') i hi a
        · have := (o.2.1 i hi).2.2; omega
theorem OwnB.perm {A B : List Res} (p : A.Perm B) : OwnB w0 A h w → OwnB w0 B h w := by
  induction p with
  | nil => exact fun x => x
  | cons x p ih => exact fun o => ⟨o.1, o.2.1, fun r' hr' => o.2.2.1 r' (p.mem_iff.2 hr'), ih o.2.2.2⟩
  | swap x y l => exact fun o => ⟨o.2.2.2.1, o.2.2.2.2.1, fun r' hr' i hi q => by
      rcases List.mem_cons.1 hr' with rfl | hr'
      · exact o.2.2.1 x (List.mem_cons_self ..) i q hi
      · exact o.2.2.2.2.2.1 r' hr' i hi q, o.1, o.2.1, fun r' hr' => o.2.2.1 r' (List.mem_cons_of_mem _ hr'), o.2.2.2.2.2.2⟩
  | trans _ _ a b => exact fun o => b (a o)
theorem OwnB.left : ∀ {A B : List Res}, OwnB w0 (A ++ B) h w → OwnB w0 A h w
  | [], _, _ => trivial
  | _ :: _, _, o => ⟨o.1, o.2.1, fun r' hr' => o.2.2.1 r' (List.mem_append_left _ hr'), OwnB.left o.2.2.2⟩
theorem OwnB.freeze {h0 : PH} (g : Gr h0 w0 h w) (o : OwnB w0 B h w) (e : B[j]? = some r) : ∃ h', Gr h0 w0 h' w ∧ h.le h' ∧ r.fz h' ∧ OwnB w0 (B.eraseIdx j) h' w := by
  have a := o.at j e
  obtain ⟨h', g', le, fr, z⟩ := r.frz g a.1 fun i hi => ⟨(a.2 i hi).1, (a.2 i hi).2.1⟩
  refine ⟨h', g', le, z, (o.erase j).keep le (Nat.le_refl _) fun r' hr' i hi => ⟨rfl, fr i ?_ fun q => o.apart j e r' hr' i q hi⟩⟩
  exact (o.foot r' (List.mem_of_mem_eraseIdx hr') i hi).1
theorem OwnB.all {h0 : PH} : ∀ {B : List Res} {h : PH}, Gr h0 w0 h w → OwnB w0 B h w → ∃ h', Gr h0 w0 h' w ∧ h.le h' ∧ ∀ r ∈ B, r.fz h'
  | [], h, g, _ => ⟨h, g, fun _ _ x => x, fun _ hr => by cases hr⟩
  | r :: B, h, g, o => by
    obtain ⟨h1, g1, l1, z1, o1⟩ := OwnB.freeze (j := 0) (r := r) g o rfl
    obtain ⟨h2, g2, l2, z2⟩ := OwnB.all g1 o1
    exact ⟨h2, g2, l1.trans l2, fun r' hr' => by
      rcases List.mem_cons.1 hr' with rfl | hr'
      · exact r'.fzm l2 z1
      · exact z2 r' hr'⟩
end
def bo (r : Res) : Res where
  bor := true
  fp := r.fp
  pr := r.pr
  st := r.st
  fz := fun _ => True
  fzm := fun _ _ => trivial
  frz := fun {h0 w0 h w} g _ _ => ⟨h, g, PH.le.refl h, fun _ x _ => x, trivial⟩
def noW (w : World) : World := { w with heap := #[] }
theorem OwnB.bo (w1 : World) {w0 : World} {h : PH} {w : World} : ∀ {B : List Res}, OwnB w0 B h w → OwnB w1 (B.map bo) h w
  | [], _ => trivial
  | _ :: _, o => ⟨o.1, fun i hi => ⟨(o.2.1 i hi).1, fun e => (by cases e), (o.2.1 i hi).2.2⟩, fun r' hr' i hi q => by
      obtain ⟨r, hr, rfl⟩ := List.mem_map.1 hr'
      exact o.2.2.1 r hr i hi q, OwnB.bo w1 o.2.2.2⟩
theorem OwnB.unbo {w0 : World} {h : PH} {w : World} : ∀ {B : List Res}, OwnB w0 (B.map E3.bo) h w → OwnB (noW w) B h w
  | [], _ => trivial
  | _ :: _, o => ⟨o.1, fun i hi => ⟨(o.2.1 i hi).1, fun _ => Nat.zero_le _, (o.2.1 i hi).2.2⟩, fun r' hr' i hi q => o.2.2.1 (E3.bo r') (List.mem_map.2 ⟨r', hr', rfl⟩) i hi q, OwnB.unbo o.2.2.2⟩
def Fx (loc env : EL) (h : PH) (ρ : Env) (x : Operand) : Prop := ∀ t S, x = .tmp t → ((t, S) ∈ loc ∨ (t, S) ∈ env) → den h S (ρ t)
theorem EnvOk.mem {h : PH} {ρ : Env} : ∀ {l : EL}, EnvOk h ρ l → ∀ {t : Nat} {S : SV}, (t, S) ∈ l → den h S (ρ t)
  | _ :: _, u, t, S, m => by
    rcases List.mem_cons.1 m with e | m
    · cases e; exact u.1
    · exact EnvOk.mem u.2 m
structure Sx (h0 : PH) (w0 : World) (loc env : EL) (B : List Res) (os : List Operand) (ρ : Env) (h : PH) (w : World) : Prop where
  gr : Gr h0 w0 h w
  fx : ∀ x ∈ os, Fx loc env h ρ x
  ow : OwnB w0 B h w
structure Sy (h0 : PH) (w0 : World) (loc env : EL) (B : List Res) (ρ : Env) (h : PH) (w : World) : Prop where
  gr : Gr h0 w0 h w
  lo : EnvOk h ρ loc
  en : EnvOk h ρ env
  ow : OwnB w0 B h w
theorem Sy.grow {h0 : PH} {w0 : World} {loc env : EL} {B : List Res} {ρ : Env} {h h' : PH} {w w' : World} (s : Sy h0 w0 loc env B ρ h w) (g : Gr h w h' w') : Sy h0 w0 loc env B ρ h' w' := ⟨s.gr.trans g, s.lo.mono g.le, s.en.mono g.le, s.ow.grow g⟩
theorem Sy.x {h0 : PH} {w0 : World} {loc env : EL} {B : List Res} {ρ : Env} {h : PH} {w : World} (s : Sy h0 w0 loc env B ρ h w) (os : List Operand) : Sx h0 w0 loc env B os ρ h w :=
  ⟨s.gr, fun x _ t S _ m => m.elim s.lo.mem s.en.mem, s.ow⟩
theorem Sx.f {h0 : PH} {w0 : World} {loc env : EL} {B : List Res} {op : Op} {ρ : Env} {h : PH} {w : World} (s : Sx h0 w0 loc env B op.operands.toList ρ h w) (x : Operand) (hx : x ∈ op.operands.toList := by simp [Op.operands, Call.operands]) : Fx loc env h ρ x := s.fx x hx
theorem freeze_ex {h0 h : PH} {w0 w : World} (a : Gr h0 w0 h w) {b : Nat} {o : Obj} (hb : w.heap[b]? = some o) (hn : h b = none) (h0b : w0.heap.size ≤ b) : ∃ h', Gr h0 w0 h' w ∧ h.le h' ∧ h' b = some o ∧ ∀ i, i ≠ b → h i = none → h' i = none :=
  ⟨h.put b o, a.freeze hb hn h0b, PH.le_put o hn, PH.put_at .., fun i hi e => by rw [PH.put_ne o hi]; exact e⟩
def rV (v : Value) (l : List SV) (t : TypeId) : Res where
  fp := fun i => v = .pointer (some ⟨i, 0, none⟩)
  pr := fun h w => ∃ b arr, v = .pointer (some ⟨b, 0, none⟩) ∧ w.heap[b]? = some (.cells arr t (0, 0)) ∧ denL h l arr.toList
  st := fun le hw _ ⟨b, arr, e, a, d⟩ => ⟨b, arr, e, (hw b e).trans a, d.mono le⟩
  fz := fun h => den h (.pk l 0) v
  fzm := fun le u => u.mono le
  frz := fun {h0 w0 h w} g ⟨b, arr, e, a, d⟩ hf => by
    obtain ⟨h', g', le, hb, fr⟩ := freeze_ex g a (hf b e).1 ((hf b e).2 rfl)
    refine ⟨h', g', le, fun i hi hn => fr i (fun q => hn (q ▸ e)) hi, b, 0, arr, t, (0, 0), hb, by simp [e], ?_, ?_⟩
    · have := d.length; simp at this; omega
    · have hl := d.length
      have : cut arr 0 l.length = arr.toList := by unfold cut; rw [← hl, List.drop_zero]; exact List.take_of_length_le (Nat.le_refl _)
      rw [this]; exact d.mono le
def lv {α : Type} (r : Rp α) (l : List α) : SV := .kv ⟨fun h v => LR r h v l, fun {h v} u => by obtain ⟨b, c, rfl, _⟩ := u.shape; rfl, fun e u => u.mono e⟩
def rA {α : Type} (r : Rp α) (e : TypeId) (v : Value) (l : List α) : Res where
  fp := fun i => Value.blk v = some i
  pr := fun h w => OwnL r 0 h w e v l
  st := fun le hw hn u => by
    obtain ⟨css, a, b⟩ := u
    exact ⟨css, a.keep fun i hi hlt => ⟨hw i hi, fun _ => hn i hi⟩, b.mono le⟩
  fz := fun h => LR r h v l
  fzm := fun le u => u.mono le
  frz := fun {h0 w0 h w} g u hf => by
    obtain ⟨css, a, b⟩ := u
    have a2 : Go.Ear.Own w0.heap.size h w e r.k v l.length css.flatten := by
      refine ⟨a.1, ?_⟩
      rcases a.2 with hn | ⟨bb, cap, arr, rfl, h1, h2⟩
      · exact .inl hn
      · exact .inr ⟨bb, cap, arr, rfl, (hf bb rfl).2 rfl, h2⟩
    obtain ⟨h', g', le, fr, z⟩ := OwnL.freeze g (Nat.le_refl _) ⟨css, a2, b⟩
    exact ⟨h', g', le, fr, z⟩
def rK (v : Value) (l : List SV) : Res where
  fp := fun _ => False
  pr := fun h _ => den h (.pk l 0) v
  st := fun le _ _ a => a.mono le
  fz := fun _ => True
  fzm := fun _ _ => trivial
  frz := fun {h0 w0 h w} g _ _ => ⟨h, g, PH.le.refl h, fun _ x _ => x, trivial⟩
def rO (b : Nat) (o : Obj) : Res where
  fp := fun i => i = b
  pr := fun _ w => w.heap[b]? = some o
  st := fun _ hw _ a => (hw b rfl).trans a
  fz := fun _ => True
  fzm := fun _ _ => trivial
  frz := fun {h0 w0 h w} g _ _ => ⟨h, g, PH.le.refl h, fun _ x _ => x, trivial⟩
theorem getD_off {α : Type _} {l : List α} {i : Nat} {d : α} (h : l.length ≤ i) : l.getD i d = d := by rw [List.getD_eq_getElem?_getD, List.getElem?_eq_none h]; rfl
def vnil : Value := .slice none 0 0
def rZ {α : Type} (r : Rp α) (e : TypeId) (vs : List Value) (ls : List (List α)) : Res where
  fp := fun i => ∃ t, Value.blk (vs.getD t vnil) = some i
  pr := fun h w => vs.length = ls.length ∧ (∀ t, OwnL r 0 h w e (vs.getD t vnil) (ls.getD t [])) ∧ ∀ t u b, Value.blk (vs.getD t vnil) = some b → Value.blk (vs.getD u vnil) = some b → t = u
  st := fun le hw hn ⟨a, b, c⟩ => ⟨a, fun t => by
    obtain ⟨css, x, y⟩ := b t
    exact ⟨css, x.keep fun i hi hlt => ⟨hw i ⟨t, hi⟩, fun _ => hn i ⟨t, hi⟩⟩, y.mono le⟩, c⟩
  fz := fun h => vs.length = ls.length ∧ ∀ t, LR r h (vs.getD t vnil) (ls.getD t [])
  fzm := fun le u => ⟨u.1, fun t => (u.2 t).mono le⟩
  frz := fun {h0 w0 h w} g ⟨a, b, c⟩ hf => by
    have key : ∀ k : Nat, ∃ h', Gr h0 w0 h' w ∧ h.le h' ∧ (∀ i, h i = none → (¬ ∃ t, t < k ∧ Value.blk (vs.getD t vnil) = some i) → h' i = none) ∧ ∀ t, t < k → LR r h' (vs.getD t vnil) (ls.getD t []) := by
      intro k
      induction k with
      | zero => exact ⟨h, g, PH.le.refl h, fun _ x _ => x, fun t ht => by omega⟩
      | succ k ih =>
        obtain ⟨h1, g1, l1, f1, z1⟩ := ih
        obtain ⟨css, x, y⟩ := b k
        have x2 : Go.Ear.Own w0.heap.size h1 w e r.k (vs.getD k vnil) (ls.getD k []).length css.flatten := by
          have x' := x.keep (h' := h1) (w' := w) fun i hi hlt => ⟨rfl, fun hn => f1 i hn (by rintro ⟨t, ht, e⟩; have := c t k i e hi; omega)⟩
          refine ⟨x'.1, ?_⟩
          rcases x'.2 with hn | ⟨bb, cap, arr, h1, h2, h3⟩
          · exact .inl hn
          · exact .inr ⟨bb, cap, arr, h1, (hf bb ⟨k, by rw [h1]; rfl⟩).2 rfl, h3⟩
        obtain ⟨h2, g2, l2, f2, z2⟩ := OwnL.freeze g1 (Nat.le_refl _) ⟨css, x2, y.mono l1⟩
        refine ⟨h2, g2, l1.trans l2, fun i hi hn => f2 i (f1 i hi fun ⟨t, ht, e⟩ => hn ⟨t, by omega, e⟩) fun e => hn ⟨k, by omega, e⟩, fun t ht => ?_⟩
        by_cases htk : t = k
        · subst htk; exact z2
        · exact (z1 t (by omega)).mono l2
    obtain ⟨h', g', l', f', z'⟩ := key vs.length
    refine ⟨h', g', l', fun i hi hn => f' i hi fun ⟨t, _, e⟩ => hn ⟨t, e⟩, a, fun t => ?_⟩
    by_cases ht : t < vs.length
    · exact z' t ht
    · rw [getD_off (by omega), getD_off (by omega)]
      exact LR.nil r h' none 0
def ov (v : Value) : SV := .kv ⟨fun _ x => x = v ∧ v.oneCell' = true, fun u => u.1 ▸ u.2, fun _ u => u⟩
def fo (v : Value) (o : Nat) : SV := .kv ⟨fun _ x => ∃ b off, v = .pointer (some ⟨b, off, none⟩) ∧ x = .pointer (some ⟨b, off + o, none⟩), fun ⟨b, _, _, e⟩ => e ▸ rfl, fun _ u => u⟩
def pa (v : Value) (k j o : Nat) : SV := .kv ⟨fun _ x => ∃ b l c, v = .slice (some ⟨b, 0, none⟩) l c ∧ x = .pointer (some ⟨b, j * k + o, none⟩), fun ⟨b, _, _, _, e⟩ => e ▸ rfl, fun _ u => u⟩
class RpC {α : Type} (r : Rp α) (c : outParam (α → List SV)) : Prop where h : ∀ {h cs x}, r.R h cs x ↔ denL h (c x) cs
theorem RpC.len {α : Type} {r : Rp α} {c : α → List SV} [i : RpC r c] {h : PH} {cs : List Value} {x : α} (u : r.R h cs x) : (c x).length = r.k := by
  rw [← r.len u]; exact (i.h.1 u).length.symm
end Go.E3
set_option linter.unusedVariables false
namespace Go.E3
open Go Go.Ear
class RflE {α : Sort _} (a : α) (b : outParam α) : Prop where h : a = b
instance {α : Sort _} {a : α} : RflE a a := ⟨rfl⟩
class TS (P : Program) (t : TypeId) (e : outParam TypeId) : Prop where h : IsUnd P t (.slice e)
class TZ (P : Program) (t : TypeId) (k : outParam Nat) : Prop where h : IsSize P t k
class TA (P : Program) (t : TypeId) (b : outParam Bool) : Prop where h : IsAgg P t b
class TI (P : Program) (t : TypeId) (k : outParam IntKind) : Prop where h : IsUnd P t (.int k)
class TD (P : Program) (t : TypeId) : Prop where h : ∃ d, IsUnd P t d
class TB (P : Program) (t : TypeId) : Prop where h : IsUnd P t .bool
class FA (P : Program) (t : TypeId) (i : Nat) (o : outParam Nat) : Prop where
  h : ∃ (fs : Array Field) (f : Field) (sz : Nat), IsUnd P t (.struct fs) ∧ fs[i]? = some f ∧ IsSize P f.type sz ∧ sz ≠ 0 ∧ f.offset = o
class ZC (P : Program) (t : TypeId) (l : outParam (List SV)) : Prop where h : ∃ z, IsZero P t z ∧ ∀ {h}, denL h l z.cells.toList
structure El (P : Program) (e : TypeId) (k b : Nat) (z : Value) (i : TypeInfo) : Prop where
  hi : P.info? e = some i
  hz : i.zero = some z
  hc : z.cells.size = i.size
  hk : i.size = k
  hb : i.bytes = b
class RT (P : Program) (e : TypeId) (α : outParam Type) (r : outParam (Rp α)) (bb : outParam Nat) (d : outParam α) : Prop where
  k : IsSize P e r.k
  e : ∃ z i, El P e r.k bb z i ∧ ∀ h, r.R h z.cells.toList d
class BT (P : Program) (t : TypeId) (places : outParam (List (Nat × Nat))) (zl : outParam (List SV)) : Prop where
  h : ∃ fs z, IsUnd P t (.struct fs) ∧ IsZero P t z ∧ (∀ w, (fs.mapM fun (f : Field) => (do pure (f.offset, ← sizeOf f.type) : Sem (Nat × Nat))).run P w = .ok places.toArray w) ∧ ∀ {h}, denL h zl z.cells.toList
theorem blt_of {a b : Nat} (h : Nat.ble b a = false) : Nat.blt a b = true := by
  rw [blt_eq]; apply decide_eq_true
  rcases Nat.lt_or_ge a b with q | q
  · exact q
  · rw [Nat.ble_eq_true_of_le q] at h; cases h
class LkE (env : EL) (t : Nat) (S : outParam SV) : Prop where h : (t, S) ∈ env
instance LkE.hd {env : EL} {t : Nat} {S : SV} : LkE ((t, S) :: env) t S := ⟨List.mem_cons_self ..⟩
instance (priority := low) LkE.tl {env : EL} {t d : Nat} {S X : SV} [i : LkE env t S] : LkE ((d, X) :: env) t S := ⟨List.mem_cons_of_mem _ i.h⟩
class LkT (loc env : EL) (t : Nat) (S : outParam SV) : Prop where h : (t, S) ∈ loc ∨ (t, S) ∈ env
instance {loc env : EL} {t : Nat} {S : SV} [i : LkE loc t S] : LkT loc env t S := ⟨.inl i.h⟩
instance (priority := low) {loc env : EL} {t : Nat} {S : SV} [i : LkE env t S] : LkT loc env t S := ⟨.inr i.h⟩
class Im (c d : Bool) : Prop where h : c = true → d = true
instance {c : Bool} : Im c c := ⟨fun x => x⟩
instance {a b c : Bool} [i : Im b c] : Im (a && b) c := ⟨fun x => i.h (Bool.and_eq_true_iff.1 x).2⟩
instance {c : Bool} : Im c true := ⟨fun _ => rfl⟩
class Un (c : Bool) (S : SV) (T : outParam SV) : Prop where h : c = true → ∀ {h v}, den h S v → den h T v
instance {c d : Bool} {S : SV} [i : Im c d] : Un c (.cn d S) S := ⟨fun x _ _ u => u.1 (i.h x)⟩
instance (priority := low) {c : Bool} {S : SV} : Un c S S := ⟨fun _ _ _ u => u⟩
class MC (l : List Value) (m : outParam (List SV)) : Prop where h : ∀ {h}, denL h m l
class Lu (n : Nat) (c : Bool) (loc env : EL) (x : Operand) (S : outParam SV) : Prop where h : c = true → ∀ {h ρ}, Fx loc env h ρ x → den h S (ev n ρ x)
section
variable {n : Nat} {c : Bool} {loc env : EL} {S T : SV} {t : Nat}
instance {v : Value} : Lu n c loc env (.const v) (.cv v) := ⟨fun _ _ _ _ => rfl⟩
instance {f : FuncId} : Lu n c loc env (.func f) (.cv (.func (.func f) #[] #[])) := ⟨fun _ _ _ _ => rfl⟩
instance [b : RflE (Nat.ble n t) false] [i : LkT loc env t S] [u : Un c S T] : Lu n c loc env (.tmp t) T := ⟨fun x h ρ a => by
  have : ev n ρ (.tmp t) = ρ t := by show (bif Nat.blt t n then ρ t else undef) = ρ t; rw [blt_of b.h]; rfl
  rw [this]; exact u.h x (a t _ rfl i.h)⟩
end
class Lus (n : Nat) (c : Bool) (loc env : EL) (xs : List Operand) (Ss : outParam (List SV)) : Prop where h : c = true → ∀ {h ρ}, (∀ x ∈ xs, Fx loc env h ρ x) → denL h Ss (xs.map (ev n ρ))
instance {n : Nat} {c : Bool} {loc env : EL} : Lus n c loc env [] [] := ⟨fun _ _ _ _ => trivial⟩
instance {n : Nat} {c : Bool} {loc env : EL} {x : Operand} {xs : List Operand} {S : SV} {Ss : List SV} [i : Lu n c loc env x S] [j : Lus n c loc env xs Ss] : Lus n c loc env (x :: xs) (S :: Ss) := ⟨fun q _ _ a => ⟨i.h q (a x (List.mem_cons_self ..)), j.h q fun y hy => a y (List.mem_cons_of_mem _ hy)⟩⟩
class Nth {α : Type _} (l : List α) (o : Nat) (S : outParam α) : Prop where h : l[o]? = some S
instance {α : Type _} {l : List α} {S : α} : Nth (S :: l) 0 S := ⟨rfl⟩
instance {α : Type _} {l : List α} {S X : α} {o : Nat} [i : Nth l o S] : Nth (X :: l) (o + 1) S := ⟨by simpa using i.h⟩
class Prt (l : List SV) (o m : Nat) (l' : outParam (List SV)) : Prop where h : (l.drop o).take m = l' ∧ o + m ≤ l.length
instance {l : List SV} : Prt l 0 0 [] := ⟨by simp, by simp⟩
instance {l l' : List SV} {x : SV} {m : Nat} [i : Prt l 0 m l'] : Prt (x :: l) 0 (m + 1) (x :: l') := ⟨by simp [← i.h.1], by have := i.h.2; simp; omega⟩
instance {l l' : List SV} {x : SV} {o m : Nat} [i : Prt l o m l'] : Prt (x :: l) (o + 1) m l' := ⟨by simp [← i.h.1], by have := i.h.2; simp; omega⟩
class Spl (l : List SV) (o : Nat) (cs : List SV) (l' : outParam (List SV)) : Prop where h : l.take o ++ cs ++ l.drop (o + cs.length) = l' ∧ o + cs.length ≤ l.length
instance {l : List SV} : Spl l 0 [] l := ⟨by simp, by simp⟩
instance {l l' cs : List SV} {x c : SV} [i : Spl l 0 cs l'] : Spl (x :: l) 0 (c :: cs) (c :: l') := ⟨by have := i.h.1; simp at this; simp [this], by have := i.h.2; simp at this ⊢; omega⟩
instance {l l' cs : List SV} {x : SV} {o : Nat} [i : Spl l o cs l'] : Spl (x :: l) (o + 1) cs (x :: l') := ⟨by rw [← i.h.1, show o + 1 + cs.length = (o + cs.length) + 1 by omega]; rfl, by have := i.h.2; simp; omega⟩
class AddN (a b : Nat) (c : outParam Nat) : Prop where h : a + b = c
instance (priority := high) {b : Nat} : AddN 0 b b := ⟨Nat.zero_add b⟩
class Cl (S : SV) (l : outParam (List SV)) : Prop where h : ∀ {h v}, den h S v → denL h l v.cells.toList
class O1 (S : SV) : Prop where h : S.one = true
instance {k : IntKind} {i : Int} : O1 (.cv (.int k i)) := ⟨rfl⟩
instance {b : Bool} : O1 (.cv (.bool b)) := ⟨rfl⟩
instance {s : ByteArray} : O1 (.cv (.string s)) := ⟨rfl⟩
instance {b : Option Addr} {l c : Nat} : O1 (.cv (.slice b l c)) := ⟨rfl⟩
instance {f : Fn} {a b : Array Value} : O1 (.cv (.func f a b)) := ⟨rfl⟩
instance {α : Type} {r : Rp α} {l : List α} : O1 (lv r l) := ⟨rfl⟩
instance {v : Value} : O1 (ov v) := ⟨rfl⟩
class O1L (l : List SV) : Prop where h : l.all SV.one = true
instance : O1L [] := ⟨rfl⟩
instance {S : SV} {l : List SV} [o : O1 S] [i : O1L l] : O1L (S :: l) := ⟨by rw [List.all_cons, o.h, i.h]; rfl⟩
theorem cells_one {v : Value} (h : v.oneCell' = true) : v.cells = #[v] := by cases v <;> first | rfl | cases h
instance {l : List SV} : Cl (.ag l) l := ⟨fun ⟨vs, e, u⟩ => by subst e; exact u⟩
instance (priority := low) {S : SV} [o : O1 S] : Cl S [S] := ⟨fun u => by rw [cells_one (u.one o.h)]; exact ⟨u, trivial⟩⟩
class HV (B : List Res) (v : Value) (l : outParam (List SV)) (t : outParam TypeId) : Prop where h : ∀ {w0 h w}, OwnB w0 B h w → ∃ b arr, v = .pointer (some ⟨b, 0, none⟩) ∧ w.heap[b]? = some (.cells arr t (0, 0)) ∧ denL h l arr.toList
class HA (B : List Res) (v : Value) (α : outParam Type) (r : outParam (Rp α)) (e : outParam TypeId) (l : outParam (List α)) : Prop where h : ∀ {w0 h w}, OwnB w0 B h w → OwnL r 0 h w e v l
class MV (B : List Res) (v : Value) (l : outParam (List SV)) (t : outParam TypeId) : Prop where h : rV v l t ∈ B
class MA (B : List Res) (v : Value) (α : outParam Type) (r : outParam (Rp α)) (e : outParam TypeId) (l : outParam (List α)) : Prop where h : rA r e v l ∈ B
class MZ (B : List Res) (vs : List Value) (α : outParam Type) (r : outParam (Rp α)) (e : outParam TypeId) (ls : outParam (List (List α))) : Prop where h : rZ r e vs ls ∈ B
structure Sb (B B' : List Res) : Prop where
  own : ∀ {w0 h w}, OwnB w0 B h w → OwnB w0 B' h w
  fp : ∀ r' ∈ B', ∀ i, r'.fp i → ∃ r ∈ B, r.fp i
theorem Sb.refl (B : List Res) : Sb B B := ⟨fun o => o, fun r h i x => ⟨r, h, x⟩⟩
theorem Sb.perm {A B : List Res} (p : A.Perm B) : Sb A B := ⟨fun o => o.perm p, fun r h i x => ⟨r, p.mem_iff.2 h, x⟩⟩
theorem Sb.trans {A B C : List Res} (x : Sb A B) (y : Sb B C) : Sb A C := ⟨fun o => y.own (x.own o), fun r h i q => by
  obtain ⟨r1, h1, f1⟩ := y.fp r h i q
  exact x.fp r1 h1 i f1⟩
theorem Sb.cons {A B : List Res} (x : Res) (s : Sb A B) : Sb (x :: A) (x :: B) := ⟨fun o => ⟨o.1, o.2.1, fun r' hr' i hi q => by
    obtain ⟨r, hr, f⟩ := s.fp r' hr' i q
    exact o.2.2.1 r hr i hi f, s.own o.2.2.2⟩, fun r hr i q => by
  rcases List.mem_cons.1 hr with rfl | hr
  · exact ⟨_, List.mem_cons_self .., q⟩
  · obtain ⟨r', h', f⟩ := s.fp r hr i q
    exact ⟨r', List.mem_cons_of_mem _ h', f⟩⟩
class PV (B : List Res) (v : Value) (l : outParam (List SV)) (t : outParam TypeId) (B' : outParam (List Res)) : Prop where h : Sb B (rV v l t :: B')
class PA (B : List Res) (v : Value) (α : outParam Type) (r : outParam (Rp α)) (e : outParam TypeId) (l : outParam (List α)) (B' : outParam (List Res)) : Prop where h : Sb B (rA r e v l :: B')
class PZ (B : List Res) (vs : List Value) (α : outParam Type) (r : outParam (Rp α)) (e : outParam TypeId) (ls : outParam (List (List α))) (B' : outParam (List Res)) : Prop where h : Sb B (rZ r e vs ls :: B')
class PO (B : List Res) (b : Nat) (o : outParam Obj) (B' : outParam (List Res)) : Prop where h : Sb B (rO b o :: B')
class UA (B : List Res) (v : Value) (α : outParam Type) (r : outParam (Rp α)) (e : outParam TypeId) (l : outParam (List α)) (mk : outParam (List α → List Res)) : Prop where
  own : ∀ {w0 h w}, OwnB w0 B h w → OwnL r 0 h w e v l ∧ ∀ b, Value.blk v = some b → w0.heap.size ≤ b ∧ h b = none
  fpm : ∃ x ∈ B, ∀ b, Value.blk v = some b → x.fp b
  sub : ∀ l', ∀ r' ∈ mk l', ∃ x ∈ B, ∀ i, r'.fp i → x.fp i
  put : ∀ {w0 h w w' l' b o}, OwnB w0 B h w → Put w w' b o → Value.blk v = some b → OwnL r 0 h w' e v l' → l'.length = l.length → OwnB w0 (mk l') h w'
section
variable {α : Type} {B B' : List Res} {v v' : Value} {l l' : List SV} {t e : TypeId} {x y : Res} {r : Rp α} {m m' : List α} {vs : List Value} {ls : List (List α)} {k : Nat} {mk : List α → List Res}
instance : HV (rV v l t :: B) v l t := ⟨fun o => o.1⟩
instance (priority := low) [i : HV B v l t] : HV (x :: B) v l t := ⟨fun o => i.h o.2.2.2⟩
instance : HA (rA r e v m :: B) v α r e m := ⟨fun o => o.1⟩
instance : HA (rZ r e vs ls :: B) (vs.getD k vnil) α r e (ls.getD k []) := ⟨fun o => o.1.2.1 k⟩
instance (priority := low) [i : HA B v α r e m] : HA (x :: B) v α r e m := ⟨fun o => i.h o.2.2.2⟩
instance [i : HA B v α r e m] : HA (B.map bo) v α r e m := ⟨fun o => i.h o.unbo⟩
instance : MA (rA r e v m :: B) v α r e m := ⟨List.mem_cons_self ..⟩
instance (priority := low) [i : MA B v α r e m] : MA (x :: B) v α r e m := ⟨List.mem_cons_of_mem _ i.h⟩
theorem Sb.next (i : Sb B (y :: B')) : Sb (x :: B) (y :: x :: B') := (i.cons x).trans (.perm (.swap ..))
instance : PV (rV v l t :: B) v l t B := ⟨.refl _⟩
instance (priority := low) [i : PV B v l t B'] : PV (x :: B) v l t (x :: B') := ⟨i.h.next⟩
instance : PA (rA r e v m :: B) v α r e m B := ⟨.refl _⟩
instance (priority := low) [i : PA B v α r e m B'] : PA (x :: B) v α r e m (x :: B') := ⟨i.h.next⟩
instance : PZ (rZ r e vs ls :: B) vs α r e ls B := ⟨.refl _⟩
instance (priority := low) [i : PZ B vs α r e ls B'] : PZ (x :: B) vs α r e ls (x :: B') := ⟨i.h.next⟩
instance {b : Nat} {o : Obj} : PO (rO b o :: B) b o B := ⟨.refl _⟩
instance (priority := low) {b : Nat} {o : Obj} [i : PO B b o B'] : PO (x :: B) b o (x :: B') := ⟨i.h.next⟩
theorem getD_set' {β : Type _} {l : List β} {k t : Nat} {a d : β} (h : k < l.length) : (l.set k a).getD t d = if t = k then a else l.getD t d := by
  rw [List.getD_eq_getElem?_getD, List.getD_eq_getElem?_getD, List.getElem?_set]
  by_cases e : t = k
  · subst e; simp [h]
  · rw [if_neg (fun q => e q.symm), if_neg e]
theorem blk_nil : Value.blk vnil = none := rfl
theorem OwnB.after {w0 : World} {h : PH} {w w' : World} {b : Nat} {o : Obj} (p : Put w w' b o) : ∀ {B : List Res}, OwnB w0 B h w → (∀ r ∈ B, ¬ r.fp b) → OwnB w0 B h w' := fun {B} ob hn =>
  ob.keep (fun _ _ x => x) (by rw [p.size]; exact Nat.le_refl _) fun r hr i hi => ⟨p.other i fun e => hn r hr (e ▸ hi), (ob.foot r hr i hi).1⟩
instance : UA (rA r e v m :: B) v α r e m (fun m' => rA r e v m' :: B) where
  own := fun o => ⟨o.1, fun b hb => ⟨(o.2.1 b hb).2.1 rfl, (o.2.1 b hb).1⟩⟩
  fpm := ⟨_, List.mem_cons_self .., fun _ q => q⟩
  sub := fun l' r' hr' => by
    rcases List.mem_cons.1 hr' with rfl | hr'
    · exact ⟨_, List.mem_cons_self .., fun _ q => q⟩
    · exact ⟨_, List.mem_cons_of_mem _ hr', fun _ q => q⟩
  put := fun o p hb u _ => ⟨u, fun i hi => ⟨(o.2.1 i hi).1, (o.2.1 i hi).2.1, by rw [p.size]; exact (o.2.1 i hi).2.2⟩, o.2.2.1, OwnB.after p o.2.2.2 fun r hr q => o.2.2.1 r hr _ hb q⟩
instance : UA (rZ r e vs ls :: B) (vs.getD k vnil) α r e (ls.getD k []) (fun m' => rZ r e vs (ls.set k m') :: B) where
  own := fun o => ⟨o.1.2.1 k, fun b hb => ⟨(o.2.1 b ⟨k, hb⟩).2.1 rfl, (o.2.1 b ⟨k, hb⟩).1⟩⟩
  fpm := ⟨_, List.mem_cons_self .., fun _ q => ⟨k, q⟩⟩
  sub := fun l' r' hr' => by
    rcases List.mem_cons.1 hr' with rfl | hr'
    · exact ⟨_, List.mem_cons_self .., fun _ q => q⟩
    · exact ⟨_, List.mem_cons_of_mem _ hr', fun _ q => q⟩
  put := fun {w0 h w w' l' b o'} o p hb u hl => by
    obtain ⟨⟨a, q, c⟩, f, d, g⟩ := o
    have hk : k < vs.length := by
      rcases Nat.lt_or_ge k vs.length with hk | hk
      · exact hk
      · rw [getD_off hk, blk_nil] at hb; cases hb
    refine ⟨⟨by rw [List.length_set]; exact a, fun t => ?_, c⟩, fun i hi => ⟨(f i hi).1, (f i hi).2.1, by rw [p.size]; exact (f i hi).2.2⟩, d, OwnB.after p g fun r hr q => d r hr _ ⟨k, hb⟩ q⟩
    rw [getD_set' (by omega)]
    by_cases e : t = k
    · subst e; rw [if_pos rfl]; exact u
    · rw [if_neg e]
      exact (q t).put p fun hb' => e (c t k _ hb' hb)
instance (priority := low) [i : UA B v α r e m mk] : UA (x :: B) v α r e m (fun m' => x :: mk m') where
  own := fun o => i.own o.2.2.2
  fpm := by obtain ⟨y, hy, f⟩ := i.fpm; exact ⟨y, List.mem_cons_of_mem _ hy, f⟩
  sub := fun l' r' hr' => by
    rcases List.mem_cons.1 hr' with rfl | hr'
    · exact ⟨_, List.mem_cons_self .., fun _ q => q⟩
    · obtain ⟨y, hy, f⟩ := i.sub l' r' hr'; exact ⟨y, List.mem_cons_of_mem _ hy, f⟩
  put := fun {w0 h w w' l' b o'} o p hb u hl => by
    obtain ⟨y, hy, f⟩ := i.fpm
    have hn : ¬ x.fp b := fun q => o.2.2.1 y hy b q (f b hb)
    refine ⟨x.st (fun _ _ q => q) (fun j hj => p.other j fun e => hn (e ▸ hj)) (fun j hj => (o.2.1 j hj).1) o.1, fun j hj => ⟨(o.2.1 j hj).1, (o.2.1 j hj).2.1, by rw [p.size]; exact (o.2.1 j hj).2.2⟩, fun r' hr' j hj q => ?_, i.put o.2.2.2 p hb u hl⟩
    obtain ⟨y2, hy2, f2⟩ := i.sub l' r' hr'
    exact o.2.2.1 y2 hy2 j hj (f2 j q)
end
theorem HV.own {B : List Res} {v : Value} {l : List SV} {t : TypeId} [i : HV B v l t] {w0 : World} {h : PH} {w : World} (o : OwnB w0 B h w) : ∃ b arr, v = .pointer (some ⟨b, 0, none⟩) ∧ w.heap[b]? = some (.cells arr t (0, 0)) ∧ denL h l arr.toList := i.h o
theorem HA.own {α : Type} {B : List Res} {v : Value} {r : Rp α} {e : TypeId} {m : List α} [i : HA B v α r e m] {w0 : World} {h : PH} {w : World} (o : OwnB w0 B h w) : OwnL r 0 h w e v m := i.h o
class IN (i : Int) (n : outParam Nat) : Prop where e : i = n
instance (n : Nat) : IN (n : Int) n := ⟨rfl⟩
instance (n : Nat) : IN (no_index (OfNat.ofNat n : Int)) (OfNat.ofNat n) := ⟨rfl⟩
class TN (i : Int) (n : outParam Nat) (sd : outParam Prop) : Prop where e : sd → i = n
instance (priority := high) {i : Int} {n : Nat} [x : IN i n] : TN i n True := ⟨fun _ => x.e⟩
instance {i j : Int} {a b : Nat} {s : Prop} [x : TN i a s] [y : IN j b] : TN (i - j) (a - b) (s ∧ b ≤ a) := ⟨fun h => by rw [x.e h.1, y.e]; omega⟩
instance {i j : Int} {a b : Nat} {s : Prop} [x : TN i a s] [y : IN j b] : TN (i + j) (a + b) s := ⟨fun h => by rw [x.e h, y.e]; omega⟩
instance (priority := low) {i : Int} : TN i i.toNat (0 ≤ i) := ⟨fun h => by omega⟩
class KM (k : IntKind) (m : outParam Nat) : Prop where h : ∀ {a : Nat}, a ≤ m → k.wrap (a : Int) = (a : Int)
instance : KM .i64 9223372036854775807 := ⟨conv_i64⟩
instance : KM .u64 18446744073709551615 := ⟨conv_u64⟩
instance : KM .u8 255 := ⟨fun h => conv_u8' (by omega)⟩
class KI (k : IntKind) (a b : outParam Int) : Prop where h : ∀ {x : Int}, a ≤ x → x ≤ b → k.wrap x = x
instance : KI .i64 (-9223372036854775808) 9223372036854775807 := ⟨fun h1 h2 => in_i64 ⟨h1, h2⟩⟩
class KU (k : IntKind) : Prop where t : True
instance : KU .u64 := ⟨trivial⟩
class TP (b : Bool) (p : outParam Prop) : Prop where h : b = true ↔ p
instance {p : Prop} [Decidable p] : TP (decide p) p := ⟨decide_eq_true_iff⟩
instance {a b : Bool} {p q : Prop} [i : TP a p] [j : TP b q] : TP (a && b) (p ∧ q) := ⟨by rw [Bool.and_eq_true, i.h, j.h]⟩
instance {a b : Bool} {p q : Prop} [i : TP a p] [j : TP b q] : TP (a || b) (p ∨ q) := ⟨by rw [Bool.or_eq_true, i.h, j.h]⟩
instance {a : Bool} {p : Prop} [i : TP a p] : TP (!a) (¬ p) := ⟨by rw [← i.h]; cases a <;> simp⟩
instance (priority := low) {b : Bool} : TP b (b = true) := ⟨Iff.rfl⟩
instance : TP true True := ⟨by simp⟩
instance : TP false False := ⟨by simp⟩
class St (P : Program) (n : Nat) (c : Bool) (loc env : EL) (B : List Res) (ms : List Nat) (d : Nat) (op : Op) (side : outParam Prop) (S : outParam SV) : Prop where
  h : c = true → side → ∀ {h0 w0 ρ h w}, Sx h0 w0 loc env B op.operands.toList ρ h w → ∀ {ty : TypeId} {pos : String} {af : Array Edge} {g : Option (Nat × Bool)} {K : Env → World → Prop}, (∀ v h' w', Gr h w h' w' → den h' S v → K (upd ρ d v) w') → OpW P n ⟨some d, op, ty, pos, af, g⟩ ρ w K
theorem St.p {P : Program} {n : Nat} {c : Bool} {loc env : EL} {B : List Res} {ms : List Nat} {d : Nat} {op : Op} {side : Prop} {S : SV}
    (f : c = true → side → ∀ {h0 w0 ρ h w}, Sx h0 w0 loc env B op.operands.toList ρ h w → ∀ {ty : TypeId} {pos : String} {af : Array Edge} {g : Option (Nat × Bool)} {K : Env → World → Prop}, (∀ v, den h S v → K (upd ρ d v) w) → OpW P n ⟨some d, op, ty, pos, af, g⟩ ρ w K) : St P n c loc env B ms d op side S :=
  ⟨fun a b _ _ _ _ _ s _ _ _ _ _ k => f a b s fun v u => k v _ _ (Gr.refl s.gr.sat) u⟩
section
variable {P : Program} {n : Nat} {c : Bool} {loc env : EL} {B : List Res} {ms : List Nat} {d : Nat} {x y z : Operand} {S T : SV} {t u : TypeId} {k : IntKind} {i j : Int} {a b m : Nat}
instance [l : Lu n c loc env x S] : St P n c loc env B ms d (.move x) True S := .p fun q _ _ _ _ _ _ s _ _ _ _ _ k => OpW.move rfl (k _ (l.h q (s.f x)))
theorem cvE {h : PH} {x v : Value} (u : den h (.cv v) x) : x = v := u
instance {g r : Bool} [l : Lu n c loc env x (.cv (.bool g))] [ly : Lu n (c && g) loc env y (.cv (.bool r))] : St P n c loc env B ms d (.pick x y (.const (.bool false))) True (.cv (.bool (g && r))) := .p fun q _ _ _ _ _ _ s _ _ _ _ _ k => by
  have e := cvE (l.h q (s.f x))
  cases g with
  | false => exact OpW.pickF e rfl (k _ rfl)
  | true => exact OpW.pickT e (cvE (ly.h (by rw [q]; rfl) (s.f y))) (k _ rfl)
instance {g r : Bool} [l : Lu n c loc env x (.cv (.bool g))] [ly : Lu n (c && !g) loc env y (.cv (.bool r))] : St P n c loc env B ms d (.pick x (.const (.bool true)) y) True (.cv (.bool (g || r))) := .p fun q _ _ _ _ _ _ s _ _ _ _ _ k => by
  have e := cvE (l.h q (s.f x))
  cases g with
  | true => exact OpW.pickT e rfl (k _ rfl)
  | false => exact OpW.pickF e (cvE (ly.h (by rw [q]; rfl) (s.f y))) (k _ rfl)
section
variable [lx : Lu n c loc env x (.cv (.int k i))] [ly : Lu n c loc env y (.cv (.int k j))]
instance (priority := high) [a1 : IN i a] [b1 : IN j b] : St P n c loc env B ms d (.binOp .lss t x y u) True (.cv (.bool (decide (a < b)))) := .p fun q _ _ _ _ _ _ s _ _ _ _ _ k => OpW.lss (cvE (lx.h q (s.f x))) (cvE (ly.h q (s.f y))) (by rw [a1.e, b1.e]; exact decide_eq_decide.2 (by omega)) (k _ rfl)
instance (priority := high) [a1 : IN i a] [b1 : IN j b] : St P n c loc env B ms d (.binOp .leq t x y u) True (.cv (.bool (decide (a ≤ b)))) := .p fun q _ _ _ _ _ _ s _ _ _ _ _ k => OpW.leq (cvE (lx.h q (s.f x))) (cvE (ly.h q (s.f y))) (by rw [a1.e, b1.e]; exact decide_eq_decide.2 (by omega)) (k _ rfl)
instance (priority := high) [a1 : IN i a] [b1 : IN j b] : St P n c loc env B ms d (.binOp .gtr t x y u) True (.cv (.bool (decide (b < a)))) := .p fun q _ _ _ _ _ _ s _ _ _ _ _ k => OpW.gtr (cvE (lx.h q (s.f x))) (cvE (ly.h q (s.f y))) (by rw [a1.e, b1.e]; exact decide_eq_decide.2 (by omega)) (k _ rfl)
instance (priority := high) [a1 : IN i a] [b1 : IN j b] : St P n c loc env B ms d (.binOp .geq t x y u) True (.cv (.bool (decide (b ≤ a)))) := .p fun q _ _ _ _ _ _ s _ _ _ _ _ k => OpW.geq (cvE (lx.h q (s.f x))) (cvE (ly.h q (s.f y))) (by rw [a1.e, b1.e]; exact decide_eq_decide.2 (by omega)) (k _ rfl)
instance (priority := high) [a1 : IN i a] [b1 : IN j b] : St P n c loc env B ms d (.binOp .eql t x y u) True (.cv (.bool (decide (a = b)))) := .p fun q _ _ _ _ _ _ s _ _ _ _ _ k => OpW.eqlI (cvE (lx.h q (s.f x))) (cvE (ly.h q (s.f y))) (by rw [a1.e, b1.e]; exact decide_eq_decide.2 (by omega)) (k _ rfl)
instance (priority := high) [a1 : IN i a] [b1 : IN j b] : St P n c loc env B ms d (.binOp .neq t x y u) True (.cv (.bool (decide (a ≠ b)))) := .p fun q _ _ _ _ _ _ s _ _ _ _ _ k => OpW.neqI (cvE (lx.h q (s.f x))) (cvE (ly.h q (s.f y))) (by rw [a1.e, b1.e]; exact decide_eq_decide.2 (by omega)) (k _ rfl)
instance : St P n c loc env B ms d (.binOp .lss t x y u) True (.cv (.bool (decide (i < j)))) := .p fun q _ _ _ _ _ _ s _ _ _ _ _ k => OpW.lss (cvE (lx.h q (s.f x))) (cvE (ly.h q (s.f y))) rfl (k _ rfl)
instance : St P n c loc env B ms d (.binOp .leq t x y u) True (.cv (.bool (decide (i ≤ j)))) := .p fun q _ _ _ _ _ _ s _ _ _ _ _ k => OpW.leq (cvE (lx.h q (s.f x))) (cvE (ly.h q (s.f y))) rfl (k _ rfl)
instance : St P n c loc env B ms d (.binOp .gtr t x y u) True (.cv (.bool (decide (j < i)))) := .p fun q _ _ _ _ _ _ s _ _ _ _ _ k => OpW.gtr (cvE (lx.h q (s.f x))) (cvE (ly.h q (s.f y))) rfl (k _ rfl)
instance : St P n c loc env B ms d (.binOp .geq t x y u) True (.cv (.bool (decide (j ≤ i)))) := .p fun q _ _ _ _ _ _ s _ _ _ _ _ k => OpW.geq (cvE (lx.h q (s.f x))) (cvE (ly.h q (s.f y))) rfl (k _ rfl)
instance : St P n c loc env B ms d (.binOp .eql t x y u) True (.cv (.bool (decide (i = j)))) := .p fun q _ _ _ _ _ _ s _ _ _ _ _ k => OpW.eqlI (cvE (lx.h q (s.f x))) (cvE (ly.h q (s.f y))) rfl (k _ rfl)
instance : St P n c loc env B ms d (.binOp .neq t x y u) True (.cv (.bool (decide (i ≠ j)))) := .p fun q _ _ _ _ _ _ s _ _ _ _ _ k => OpW.neqI (cvE (lx.h q (s.f x))) (cvE (ly.h q (s.f y))) rfl (k _ rfl)
instance (priority := high) [a1 : IN i a] [b1 : IN j b] [km : KM k m] : St P n c loc env B ms d (.binOp .add t x y u) (a + b ≤ m) (.cv (.int k ((a + b : Nat) : Int))) := .p fun q sd _ _ _ _ _ s _ _ _ _ _ k => OpW.add (cvE (lx.h q (s.f x))) (cvE (ly.h q (s.f y))) (by rw [a1.e, b1.e, show (a : Int) + b = ((a + b : Nat) : Int) from rfl]; exact km.h sd) (k _ rfl)
instance {lo hi : Int} [km : KI k lo hi] : St P n c loc env B ms d (.binOp .add t x y u) (lo ≤ i + j ∧ i + j ≤ hi) (.cv (.int k (i + j))) := .p fun q sd _ _ _ _ _ s _ _ _ _ _ k => OpW.add (cvE (lx.h q (s.f x))) (cvE (ly.h q (s.f y))) (km.h sd.1 sd.2) (k _ rfl)
instance (priority := high) [a1 : IN i a] [b1 : IN j b] [KU k] [km : KM k m] : St P n c loc env B ms d (.binOp .sub t x y u) (b ≤ a ∧ a ≤ m) (.cv (.int k ((a - b : Nat) : Int))) := .p fun q sd _ _ _ _ _ s _ _ _ _ _ k => OpW.sub (cvE (lx.h q (s.f x))) (cvE (ly.h q (s.f y))) (by rw [a1.e, b1.e, show (a : Int) - b = ((a - b : Nat) : Int) by omega]; exact km.h (by omega)) (k _ rfl)
instance {lo hi : Int} [km : KI k lo hi] : St P n c loc env B ms d (.binOp .sub t x y u) (lo ≤ i - j ∧ i - j ≤ hi) (.cv (.int k (i - j))) := .p fun q sd _ _ _ _ _ s _ _ _ _ _ k => OpW.sub (cvE (lx.h q (s.f x))) (cvE (ly.h q (s.f y))) (km.h sd.1 sd.2) (k _ rfl)
instance (priority := high) [a1 : IN i a] [b1 : IN j b] [km : KM k m] : St P n c loc env B ms d (.binOp .mul t x y u) (a * b ≤ m) (.cv (.int k ((a * b : Nat) : Int))) := .p fun q sd _ _ _ _ _ s _ _ _ _ _ k => OpW.mul (cvE (lx.h q (s.f x))) (cvE (ly.h q (s.f y))) (by rw [a1.e, b1.e, ← Int.natCast_mul]; exact km.h sd) (k _ rfl)
instance [a1 : IN i a] [b1 : IN j b] [km : KM k m] : St P n c loc env B ms d (.binOp .quo t x y u) (b ≠ 0 ∧ a ≤ m) (.cv (.int k ((a / b : Nat) : Int))) := .p fun q sd _ _ _ _ _ s _ _ _ _ _ k => OpW.quo (cvE (lx.h q (s.f x))) (cvE (ly.h q (s.f y))) (by rw [b1.e]; omega) (by rw [a1.e, b1.e, show (a : Int).tdiv (b : Int) = ((a / b : Nat) : Int) from rfl]; exact km.h (Nat.le_trans (Nat.div_le_self a b) sd.2)) (k _ rfl)
instance (priority := low) {s1 : Prop} [a1 : TN i a s1] [b1 : IN j b] [km : KM k m] : St P n c loc env B ms d (.binOp .quo t x y u) (s1 ∧ b ≠ 0 ∧ a ≤ m) (.cv (.int k ((a / b : Nat) : Int))) := .p fun q sd _ _ _ _ _ s _ _ _ _ _ k => OpW.quo (cvE (lx.h q (s.f x))) (cvE (ly.h q (s.f y))) (by rw [b1.e]; omega) (by rw [a1.e sd.1, b1.e, show (a : Int).tdiv (b : Int) = ((a / b : Nat) : Int) from rfl]; exact km.h (Nat.le_trans (Nat.div_le_self a b) sd.2.2)) (k _ rfl)
instance (priority := low) {s1 : Prop} [a1 : TN i a s1] [b1 : IN j b] : St P n c loc env B ms d (.binOp .rem t x y u) (s1 ∧ b ≠ 0) (.cv (.int k ((a % b : Nat) : Int))) := .p fun q sd _ _ _ _ _ s _ _ _ _ _ k => OpW.rem (cvE (lx.h q (s.f x))) (cvE (ly.h q (s.f y))) (by rw [b1.e]; omega) (by rw [a1.e sd.1, b1.e]; rfl) (k _ rfl)
instance [a1 : IN i a] [b1 : IN j b] : St P n c loc env B ms d (.binOp .rem t x y u) (b ≠ 0) (.cv (.int k ((a % b : Nat) : Int))) := .p fun q sd _ _ _ _ _ s _ _ _ _ _ k => OpW.rem (cvE (lx.h q (s.f x))) (cvE (ly.h q (s.f y))) (by rw [b1.e]; omega) (by rw [a1.e, b1.e]; rfl) (k _ rfl)
end
class KB (k : IntKind) (m : outParam Nat) : Prop where
  o : ∀ {P : Program} {a b : Nat}, a < m → b < m → ∀ w, (Op.intBits .or k (a : Int) (b : Int)).run P w = .ok (.int k ((a ||| b : Nat) : Int)) w
  a : ∀ {P : Program} {a b : Nat}, a < m → b < m → ∀ w, (Op.intBits .and k (a : Int) (b : Int)).run P w = .ok (.int k ((a &&& b : Nat) : Int)) w
instance : KB .u64 18446744073709551616 := ⟨or_u64, and_u64⟩
instance : KB .u32 4294967296 := ⟨or_u32, and_u32⟩
section
variable [lx : Lu n c loc env x (.cv (.int k i))] [ly : Lu n c loc env y (.cv (.int k j))] [a1 : IN i a] [b1 : IN j b]
instance [kb : KB k m] : St P n c loc env B ms d (.binOp .or t x y u) (a < m ∧ b < m) (.cv (.int k ((a ||| b : Nat) : Int))) := .p fun q sd _ _ _ _ _ s _ _ _ _ _ k => OpW.bits (.inr (.inl rfl)) (cvE (lx.h q (s.f x))) (cvE (ly.h q (s.f y))) (fun w => by rw [a1.e, b1.e]; exact kb.o sd.1 sd.2 w) (k _ rfl)
instance [kb : KB k m] : St P n c loc env B ms d (.binOp .and t x y u) (a < m ∧ b < m) (.cv (.int k ((a &&& b : Nat) : Int))) := .p fun q sd _ _ _ _ _ s _ _ _ _ _ k => OpW.bits (.inl rfl) (cvE (lx.h q (s.f x))) (cvE (ly.h q (s.f y))) (fun w => by rw [a1.e, b1.e]; exact kb.a sd.1 sd.2 w) (k _ rfl)
end
class KBi (k : IntKind) (m : outParam Nat) : Prop where h : k.bits = m
instance : KBi .u64 64 := ⟨rfl⟩
instance : KBi .u32 32 := ⟨rfl⟩
section
variable {k2 : IntKind} {m2 : Nat} {sd2 : Prop} [lx : Lu n c loc env x (.cv (.int k i))] [ly : Lu n c loc env y (.cv (.int k2 j))] [a1 : IN i a] [b1 : TN j b sd2] [kb : KBi k m2]
instance : St P n c loc env B ms d (.binOp .shr t x y u) (sd2 ∧ b ≤ m2) (.cv (.int k ((a / 2 ^ b : Nat) : Int))) := .p fun q sd _ _ _ _ _ s _ _ _ _ _ k => OpW.shift (.inr rfl) (cvE (lx.h q (s.f x))) (cvE (ly.h q (s.f y))) (fun w => by rw [a1.e, b1.e sd.1]; exact shr_nat (by rw [kb.h]; exact sd.2) w) (k _ rfl)
instance [km : KM k m] : St P n c loc env B ms d (.binOp .shl t x y u) (sd2 ∧ b ≤ m2 ∧ a * 2 ^ b ≤ m) (.cv (.int k ((a * 2 ^ b : Nat) : Int))) := .p fun q sd _ _ _ _ _ s _ _ _ _ _ k => OpW.shift (.inl rfl) (cvE (lx.h q (s.f x))) (cvE (ly.h q (s.f y))) (fun w => by rw [a1.e, b1.e sd.1]; exact shl_nat (by rw [kb.h]; exact sd.2.1) (km.h sd.2.2) w) (k _ rfl)
end
instance (priority := high) {k2 : IntKind} {sd2 : Prop} [lx : Lu n c loc env x (.cv (.int .u32 i))] [ly : Lu n c loc env y (.cv (.int k2 j))] [a1 : IN i a] [b1 : TN j b sd2] : St P n c loc env B ms d (.binOp .shl t x y u) (sd2 ∧ b ≤ 32) (.cv (.int .u32 ((a * 2 ^ b % 4294967296 : Nat) : Int))) := .p fun q sd _ _ _ _ _ s _ _ _ _ _ k => OpW.shift (.inl rfl) (cvE (lx.h q (s.f x))) (cvE (ly.h q (s.f y))) (fun w => by rw [a1.e, b1.e sd.1]; exact shl_nat (show b ≤ 32 from sd.2) conv_u32 w) (k _ rfl)
section
variable {g r : Bool} [lx : Lu n c loc env x (.cv (.bool g))]
instance : St P n c loc env B ms d (.unOp .not t x) True (.cv (.bool (!g))) := .p fun q _ _ _ _ _ _ s _ _ _ _ _ k => OpW.notB (cvE (lx.h q (s.f x))) rfl (k _ rfl)
instance [tb : TB P t] [ly : Lu n c loc env y (.cv (.bool r))] : St P n c loc env B ms d (.binOp .eql t x y u) True (.cv (.bool (g == r))) := .p fun q _ _ _ _ _ _ s _ _ _ _ _ k => OpW.eqlB tb.h (cvE (lx.h q (s.f x))) (cvE (ly.h q (s.f y))) rfl (k _ rfl)
instance [tb : TB P t] [ly : Lu n c loc env y (.cv (.bool r))] : St P n c loc env B ms d (.binOp .neq t x y u) True (.cv (.bool (g != r))) := .p fun q _ _ _ _ _ _ s _ _ _ _ _ k => OpW.neqB tb.h (cvE (lx.h q (s.f x))) (cvE (ly.h q (s.f y))) rfl (k _ rfl)
end
section
variable {k2 : IntKind} [lx : Lu n c loc env x (.cv (.int k i))] [td : TD P t] [ti : TI P u k2]
instance (priority := high) [a1 : IN i a] [td : TD P t] [ti : TI P u .u32] : St P n c loc env B ms d (.convert t u x) True (.cv (.int .u32 ((a % 4294967296 : Nat) : Int))) := .p fun q sd _ _ _ _ _ s _ _ _ _ _ k => by
  obtain ⟨_, hd⟩ := td.h
  exact OpW.convI hd ti.h (cvE (lx.h q (s.f x))) (by rw [a1.e]; exact conv_u32) (k _ rfl)
instance [a1 : IN i a] [km : KM k2 m] : St P n c loc env B ms d (.convert t u x) (a ≤ m) (.cv (.int k2 (a : Int))) := .p fun q sd _ _ _ _ _ s _ _ _ _ _ k => by
  obtain ⟨_, hd⟩ := td.h
  exact OpW.convI hd ti.h (cvE (lx.h q (s.f x))) (by rw [a1.e]; exact km.h sd) (k _ rfl)
instance (priority := 200) {sd1 : Prop} [KU k2] [a1 : TN i a sd1] [km : KM k2 m] : St P n c loc env B ms d (.convert t u x) (sd1 ∧ a ≤ m) (.cv (.int k2 (a : Int))) := .p fun q sd _ _ _ _ _ s _ _ _ _ _ k => by
  obtain ⟨_, hd⟩ := td.h
  exact OpW.convI hd ti.h (cvE (lx.h q (s.f x))) (by rw [a1.e sd.1]; exact km.h sd.2) (k _ rfl)
end
instance {lo hi : Int} [lx : Lu n c loc env x (.cv (.int k i))] [km : KI k lo hi] : St P n c loc env B ms d (.unOp .neg t x) (lo ≤ -i ∧ -i ≤ hi) (.cv (.int k (-i))) := .p fun q sd _ _ _ _ _ s _ _ _ _ _ k => OpW.negI (cvE (lx.h q (s.f x))) (by rw [Int.zero_sub]; exact km.h sd.1 sd.2) (k _ rfl)
end
end Go.E3
