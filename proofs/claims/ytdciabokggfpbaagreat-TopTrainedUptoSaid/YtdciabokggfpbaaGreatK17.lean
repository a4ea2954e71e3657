/- K17: a part of the proof about training through the decoder: how the program's functions run, and what they compute, for every input. -/
import Derived.Test.YtdciabokggfpbaaGreatK14
import Derived.Test.YtdciabokggfpbaaGreatK5
import Derived.Test.YtdciabokggfpbaaGreatK16
set_option linter.all false
namespace Go.Ear
theorem num_neg_iff {q : Rat} : q.num < 0 ↔ q < 0 := by
 have := Rat.num_nonneg (q := q)
 rw [<- Rat.not_le, <- this]; omega
theorem num_pos_iff {q : Rat} : 0 < q.num ↔ 0 < q := by
 have h1 := Rat.num_nonneg (q := -q)
 rw [Rat.neg_num] at h1
 rw [<- Rat.not_le]
 constructor
 · intro h h2
   have : 0 <= -q := by grind
   have := h1.2 this
   omega
 · intro h
   have : ¬ 0 <= -q.num := fun h3 => h (by have := h1.1 h3; grind)
   omega
theorem sgQ_neg {q : Rat} : sgQ q < 0 ↔ q < 0 := by
 unfold sgQ
 by_cases h : q = 0
 · subst h; simp
 · rw [if_neg h, <- num_neg_iff]
   split <;> simp_all
theorem sgQ_pos {q : Rat} : 0 < sgQ q ↔ 0 < q := by
 unfold sgQ
 by_cases h : q = 0
 · subst h; simp
 · rw [if_neg h]
   have h2 : q.num ≠ 0 := fun e => h (Rat.num_eq_zero.1 e)
   rw [<- num_pos_iff]
   split
   · omega
   · omega
theorem sgQ_zero {q : Rat} : sgQ q = 0 ↔ q = 0 := by
 unfold sgQ
 by_cases h : q = 0
 · simp [h]
 · rw [if_neg h]; simp only [h,iff_false]; split <;> decide
def negF (f : Fr) : Bool := decide (f.rat < 0)
def idxP {α : Type} (p : α -> Bool) (l : List α) : Int := if l.any p = true then (l.findIdx p : Int) else -1
theorem idx_found {α : Type} {p : α -> Bool} {l : List α} {k : Nat} (d : α) (hk : k < l.length) (hn : (l.take k).any p = false) (hp : p (l.getD k d) = true) : idxP p l = k := by
 have h1 : l.any p = true := by
  rw [List.any_eq_true]
  refine ⟨l.getD k d, ?_,hp⟩
  rw [List.getD_eq_getElem?_getD,List.getElem?_eq_getElem hk]; exact List.getElem_mem hk
 unfold idxP
 rw [if_pos h1]
 congr 1
 rw [List.findIdx_eq hk]
 refine ⟨?_, ?_⟩
 · rwa [List.getD_eq_getElem?_getD,List.getElem?_eq_getElem hk] at hp
 · intro j hj
   have := List.any_eq_false.1 hn (l[j]) (by rw [List.mem_take_iff_getElem]; exact ⟨j,by omega,rfl⟩)
   simpa using this
theorem idx_none {α : Type} {p : α -> Bool} {l : List α} {k : Nat} (hk : l.length <= k) (hn : (l.take k).any p = false) : idxP p l = -1 := by
 rw [List.take_of_length_le hk] at hn
 unfold idxP; rw [hn]; rfl
theorem any_take_succ {α : Type} {p : α -> Bool} {l : List α} {k : Nat} (d : α) (hk : k < l.length) (hn : (l.take k).any p = false) (hp : p (l.getD k d) = false) : (l.take (k + 1)).any p = false := by
 rw [take_snoc d hk,List.any_append,hn,List.any_cons,hp]; rfl
theorem idx_any {α : Type} {p : α -> Bool} {l : List α} : decide (0 <= idxP p l) = l.any p := by
 unfold idxP
 cases h : l.any p
 · rfl
 · rw [if_pos rfl]; simp
def bestAt (l : List Fr) : Nat -> Int
 | 0 => -1
 | k + 1 => if bestAt l k < 0 \/ (l.getD (bestAt l k).toNat fr0).rat < (l.getD k fr0).rat then (k : Int) else bestAt l k
theorem bestAt_bd (l : List Fr) : ∀ k : Nat, -1 <= bestAt l k /\ bestAt l k < k
 | 0 => by simp [bestAt]
 | k + 1 => by
   have := bestAt_bd l k
   unfold bestAt
   split <;> omega
def distF (l : List Fr) : Bool := !l.any negF && decide (sumF l = 1)
def normF (l : List Fr) : List Rat := if l.any negF = true \/ sumF l = 0 then [] else l.map fun f => f.rat * (sumF l)⁻¹
def normE (l : List Fr) : Int := if l.any negF = true then 2 else if sumF l = 0 then 3 else 0
theorem sgQ_sub_one {q : Rat} : sgQ (q - 1) = 0 ↔ q = 1 := by rw [sgQ_zero]; constructor <;> intro h <;> grind
theorem map_take_succ {α β : Type} {f : α -> β} {l : List α} {k : Nat} (d : α) (hk : k < l.length) : (l.take (k + 1)).map f = (l.take k).map f ++ [f (l.getD k d)] := by
 rw [take_snoc d hk]; simp
end Go.Ear
namespace Go.Ear
theorem rat_sub_pos {a b : Rat} : 0 < a - b ↔ b < a := by constructor <;> intro h <;> grind
theorem bestAt_succ (l : List Fr) (k : Nat) : bestAt l (k + 1) = if bestAt l k < 0 \/ (l.getD (bestAt l k).toNat fr0).rat < (l.getD k fr0).rat then (k : Int) else bestAt l k := rfl
theorem bestAt_zero (l : List Fr) : bestAt l 0 = -1 := rfl
attribute [irreducible] bestAt
theorem one_cast : (((1 : Nat) : Int) : Rat) = 1 := rfl
theorem dist_f {l : List Fr} (h : l.any negF = true) : false = distF l := by unfold distF; rw [h]; rfl
theorem dist_t {l : List Fr} (h : ¬ l.any negF = true) : decide (sgQ (sumF l - (((1 : Nat) : Int) : Rat)) = ((0 : Nat) : Int)) = distF l := by
 unfold distF
 rw [Bool.not_eq_true] at h
 rw [h,Bool.not_false,Bool.true_and,one_cast]
 exact decide_eq_decide.2 sgQ_sub_one
end Go.Ear
namespace Go.Ear
theorem plus_step {out a b : List Nat} {k c : Nat} (hl : out.length = k) (hv : val out + c * B32 ^ k = val (a.take k) + val (b.take k)) :
 val (out ++ [(c + a.getD k 0 + b.getD k 0) % 4294967296]) + (c + a.getD k 0 + b.getD k 0) / 2 ^ 32 * B32 ^ (k + 1) = val (a.take (k + 1)) + val (b.take (k + 1)) := by
 have := add_step (out := out ++ [0]) (a := a) (b := b) (k := k) (c := c) (by simp; omega) (by rw [<- hl,List.take_left']; rw [hl]; exact hv; rfl)
 rw [<- this]
 congr 2
 rw [List.take_of_length_le (by simp; omega)]
 subst hl
 simp [List.set_append_right]
theorem plus_close {out : List Nat} {a b k : Nat} (h1 : (digs a).length <= k) (h2 : (digs b).length <= k) (hv : val out + 0 * B32 ^ k = val ((digs a).take k) + val ((digs b).take k)) : val out = a + b := by
 rw [val_take_all h1,val_take_all h2,val_digs,val_digs] at hv; omega
theorem minus_step1 {out a b : List Nat} {k br : Nat} (hl : out.length = k) (hb : b.getD k 0 < 4294967296) (hlt : a.getD k 0 < br + b.getD k 0) (hk : k < a.length)
 (hv : val out + val (b.take k) = val (a.take k) + br * B32 ^ k) (h1 : br <= 1) :
 val (out ++ [(a.getD k 0 + 4294967296) - (br + b.getD k 0)]) + val (b.take (k + 1)) = val (a.take (k + 1)) + 1 * B32 ^ (k + 1) := by
 have hd : (out ++ a.drop k).drop k = a.drop k := by rw [<- hl,List.drop_left' rfl]
 have ht : (out ++ a.drop k).take k = out := by rw [<- hl,List.take_left' rfl]
 have hg : (out ++ a.drop k).getD k 0 = a.getD k 0 := by
  subst hl
  simp [List.getD_eq_getElem?_getD,List.getElem?_append_right]
 have := sub_step1 (out := out ++ a.drop k) (a := a) (b := b) (k := k) (br := br) (by simp; omega) hb (by rw [hg]; exact hlt) hd (by rw [ht]; exact hv) h1
 rw [<- this,hg]
 congr 2
 rw [take_snoc 0 (by simp; omega),getD_set_self (by simp; omega),take_set_self,ht]
theorem minus_step2 {out a b : List Nat} {k br : Nat} (hl : out.length = k) (hb : b.getD k 0 < 4294967296) (hge : ¬ a.getD k 0 < br + b.getD k 0) (hk : k < a.length)
 (hv : val out + val (b.take k) = val (a.take k) + br * B32 ^ k) :
 val (out ++ [a.getD k 0 - (br + b.getD k 0)]) + val (b.take (k + 1)) = val (a.take (k + 1)) + 0 * B32 ^ (k + 1) := by
 have hd : (out ++ a.drop k).drop k = a.drop k := by rw [<- hl,List.drop_left' rfl]
 have ht : (out ++ a.drop k).take k = out := by rw [<- hl,List.take_left' rfl]
 have hg : (out ++ a.drop k).getD k 0 = a.getD k 0 := by
  subst hl
  simp [List.getD_eq_getElem?_getD,List.getElem?_append_right]
 have := sub_step2 (out := out ++ a.drop k) (a := a) (b := b) (k := k) (br := br) (by simp; omega) hb (by rw [hg]; exact hge) hd (by rw [ht]; exact hv)
 rw [<- this,hg]
 congr 2
 rw [take_snoc 0 (by simp; omega),getD_set_self (by simp; omega),take_set_self,ht]
theorem minus_close {out : List Nat} {a b k br : Nat} (hk : k = (digs a).length) (hl : out.length = k) (hf : Fit out) (hlb : (digs b).length <= (digs a).length) (hba : b <= a)
 (hv : val out + val ((digs b).take k) = val ((digs a).take k) + br * B32 ^ k) : val out = a - b :=
 sub_close hk (by omega) hf hlb hba (by rw [List.take_of_length_le (by omega)]; exact hv)
theorem half_step {out a : List Nat} {k c : Nat} (hk : 0 < k) (h1 : k <= out.length) (h2 : k <= a.length) (hc : c < 2) (hb : a.getD (k - 1) 0 < 4294967296) (hv : val (out.drop k) * 2 + c = val (a.drop k)) :
 val ((out.set (k - 1) (a.getD (k - 1) 0 / 2 ^ 1 ||| c * 2 ^ 31)).drop (k - 1)) * 2 + (a.getD (k - 1) 0 &&& 1) = val (a.drop (k - 1)) := by
 have e : (a.getD (k - 1) 0 / 2 ^ 1 ||| c * 2 ^ 31) = (c * 2 ^ 32 + a.getD (k - 1) 0) / 2 := by
  rw [Nat.or_comm,Nat.mul_comm, <- Nat.two_pow_add_eq_or_of_lt (i := 31) (by have : (2:Nat)^31 = 2147483648 := rfl; omega)]
  have e1 : (2:Nat)^31 = 2147483648 := rfl
  have e2 : (2:Nat)^32 = 4294967296 := rfl
  rw [e1,e2]; omega
 have e3 : (a.getD (k - 1) 0 &&& 1) = (c * 2 ^ 32 + a.getD (k - 1) 0) % 2 := by
  rw [Nat.and_one_is_mod]
  have e2 : (2:Nat)^32 = 4294967296 := rfl
  rw [e2]; omega
 rw [e,e3]
 exact over_step hk h1 h2 hv
theorem half_lt {x c : Nat} (hx : x < 4294967296) (hc : c < 2) : (x / 2 ^ 1 ||| c * 2 ^ 31) < 4294967296 := by
 have e : (4294967296 : Nat) = 2 ^ 32 := rfl
 rw [e]
 refine Nat.or_lt_two_pow ?_ ?_
 · have e2 : (2:Nat)^32 = 4294967296 := rfl
   rw [e2]; omega
 · have e1 : (2:Nat)^31 = 2147483648 := rfl
   have e2 : (2:Nat)^32 = 4294967296 := rfl
   rw [e1,e2]; omega
theorem and1_lt (x : Nat) : (x &&& 1) < 2 := by rw [Nat.and_one_is_mod]; omega
theorem digs_even {a : Nat} : (digs a).getD 0 0 % 2 = a % 2 := by
 by_cases h : a = 0
 · subst h; rw [digs_zero]; rfl
 · rw [digs_pos h]; simp only [List.getD_cons_zero,B32_eq]; omega
theorem bits_step {x : Nat} (h : 0 < x) : bitlen x = bitlen (x / 2 ^ 1) + 1 := bitlen_pos (by omega)
theorem Fit.snoc {l : List Nat} {x : Nat} (f : Fit l) (h : x < 4294967296) : Fit (l ++ [x]) := fun y hy => by
 rcases List.mem_append.1 hy with hy | hy
 · exact f y hy
 · simp at hy; subst hy; exact h
theorem one_eq {a : Nat} : (decide ((digs a).length = 1) && decide ((digs a).getD 0 0 = 1)) = decide (a = 1) := by
 rw [Bool.eq_iff_iff]
 simp only [Bool.and_eq_true,decide_eq_true_eq]
 constructor
 · intro ⟨h1,h2⟩
   have h0 : a ≠ 0 := by rintro rfl; rw [digs_zero] at h1; simp at h1
   rw [digs_pos h0] at h1 h2
   simp only [List.length_cons] at h1
   simp only [List.getD_cons_zero,B32_eq] at h2
   have h3 : a / B32 = 0 := len_zero.1 (by omega)
   rw [B32_eq] at h3
   omega
 · rintro rfl
   rw [digs_pos (by decide)]
   simp [B32,digs_zero]
theorem digs_lit1 : digs 1 = [1] := by rw [digs_pos (by decide)]; simp [B32,digs_zero]
theorem bits_end {m x a : Nat} (hm : m + bitlen x = bitlen a) (h : ¬ 0 < x) : m = bitlen a := by
 have h0 : x = 0 := by omega
 rw [h0,bitlen_zero] at hm; omega
theorem val_one (r : Nat) : val [r] = r := by simp [val]
theorem lt_bitlen (a : Nat) : a < 2 ^ bitlen a := by
 induction a using Nat.strongRecOn with
 | _ a ih =>
   by_cases h : a = 0
   · subst h; rw [bitlen_zero]; decide
   · have := ih (a / 2) (by omega)
     rw [bitlen_pos h,Nat.pow_succ]; omega
theorem one_shl_lt (i : Nat) : 1 * 2 ^ (i % 32) < 4294967296 := by
 rw [Nat.one_mul]
 exact Nat.lt_of_lt_of_le (Nat.pow_lt_pow_right (by decide) (Nat.mod_lt i (by decide))) (Nat.le_refl _)
theorem digs_getD (a : Nat) : ∀ i : Nat,(digs a).getD i 0 = a / B32 ^ i % B32 := by
 induction a using Nat.strongRecOn with
 | _ a ih =>
   intro i
   by_cases h : a = 0
   · subst h; rw [digs_zero]; simp
   · rw [digs_pos h]
     cases i with
     | zero => simp
     | succ i =>
       rw [List.getD_cons_succ,ih (a / B32) (Nat.div_lt_self (by omega) (by decide)) i,Nat.div_div_eq_div_mul,Nat.pow_succ,Nat.mul_comm B32]
theorem bit_at (a i : Nat) : ((digs a).getD (i / 32) 0 / 2 ^ (i % 32) &&& 1) = a / 2 ^ i % 2 := by
 rw [Nat.and_one_is_mod,digs_getD]
 have e : B32 = 2 ^ 32 := rfl
 have h1 : a / 2 ^ i = a / B32 ^ (i / 32) / 2 ^ (i % 32) := by
  rw [e, <- Nat.pow_mul,Nat.div_div_eq_div_mul, <- Nat.pow_add,show 32 * (i / 32) + i % 32 = i by omega]
 rw [h1]
 generalize a / B32 ^ (i / 32) = m
 have h2 : m % B32 / 2 ^ (i % 32) = m / 2 ^ (i % 32) % 2 ^ (32 - i % 32) := by
  rw [e]
  conv => lhs; rw [show (2:Nat) ^ 32 = 2 ^ (i % 32) * 2 ^ (32 - i % 32) by rw [<- Nat.pow_add]; congr 1; omega]
  rw [Nat.mod_mul_right_div_self]
 rw [h2]
 have h3 : (2:Nat) ^ (32 - i % 32) = 2 * 2 ^ (31 - i % 32) := by rw [<- Nat.pow_succ']; congr 1; omega
 rw [h3,Nat.mod_mul_right_mod]
theorem cmpN_nonneg {a b : Nat} (h : ((0 : Nat) : Int) <= cmpN a b) : b <= a := by have := cmpN_neg (a := a) (b := b); omega
theorem cmpN_nneg {a b : Nat} (h : ¬ ((0 : Nat) : Int) <= cmpN a b) : a < b := by have := cmpN_neg (a := a) (b := b); omega
theorem div_halves {a k : Nat} (hk : 0 < k) : a / 2 ^ (k - 1) = 2 * (a / 2 ^ k) + a / 2 ^ (k - 1) % 2 := by
 obtain ⟨j,rfl⟩ : ∃ j,k = j + 1 := ⟨k - 1,by omega⟩
 rw [Nat.add_sub_cancel,Nat.pow_succ, <- Nat.div_div_eq_div_mul]; omega
theorem div_core {q b t : Nat} (hb : b ≠ 0) (ht : t <= 1) : (2 * q + t) / b = 2 * (q / b) + (if b <= 2 * (q % b) + t then 1 else 0) /\ (2 * q + t) % b = 2 * (q % b) + t - (if b <= 2 * (q % b) + t then b else 0) := by
 have h1 := Nat.div_add_mod q b
 have h2 := Nat.mod_lt q (Nat.pos_of_ne_zero hb)
 generalize q / b = x at *
 generalize q % b = r at *
 subst h1
 have e : 2 * (b * x + r) + t = b * (2 * x) + (2 * r + t) := by grind
 rw [e]
 split
 · rename_i h
   have e2 : b * (2 * x) + (2 * r + t) = b * (2 * x + 1) + (2 * r + t - b) := by rw [Nat.mul_add,Nat.mul_one]; omega
   rw [e2,Nat.mul_add_div (Nat.pos_of_ne_zero hb),Nat.mul_add_mod,Nat.div_eq_of_lt (by omega),Nat.mod_eq_of_lt (by omega)]
   exact ⟨rfl,rfl⟩
 · rename_i h
   rw [Nat.mul_add_div (Nat.pos_of_ne_zero hb),Nat.mul_add_mod,Nat.div_eq_of_lt (by omega),Nat.mod_eq_of_lt (by omega)]
   exact ⟨rfl,rfl⟩
theorem val_getD {l : List Nat} (f : Fit l) : ∀ {i : Nat},i < l.length -> l.getD i 0 = val l / B32 ^ i % B32 := by
 induction l with
 | nil => intro i h; simp at h
 | cons x l ih =>
   intro i h
   have hx : x < B32 := f x (List.mem_cons_self ..)
   cases i with
   | zero => simp [val,Nat.add_mul_mod_self_left,Nat.mod_eq_of_lt hx]
   | succ i =>
     rw [List.getD_cons_succ,ih (fun y hy => f y (List.mem_cons_of_mem _ hy)) (by simpa using h),val,Nat.pow_succ,Nat.mul_comm (B32 ^ i), <- Nat.div_div_eq_div_mul,Nat.add_mul_div_left _ _ B32_pos,Nat.div_eq_of_lt hx,Nat.zero_add]
section divs
variable {a b k : Nat} (hk : 0 < k) (hb : b ≠ 0)
include hk hb
theorem div_t1 (ht : a / 2 ^ (k - 1) % 2 = 1) (hge : b <= a / 2 ^ k % b + a / 2 ^ k % b + 1) : a / 2 ^ k % b + a / 2 ^ k % b + 1 - b = a / 2 ^ (k - 1) % b := by
 rw [div_halves hk,ht,(div_core hb (Nat.le_refl 1)).2,if_pos (by omega)]; omega
theorem div_f1 (ht : a / 2 ^ (k - 1) % 2 = 1) (hge : a / 2 ^ k % b + a / 2 ^ k % b + 1 < b) : a / 2 ^ k % b + a / 2 ^ k % b + 1 = a / 2 ^ (k - 1) % b := by
 rw [div_halves hk,ht,(div_core hb (Nat.le_refl 1)).2,if_neg (by omega)]; omega
theorem div_t0 (ht : a / 2 ^ (k - 1) % 2 = 0) (hge : b <= a / 2 ^ k % b + a / 2 ^ k % b) : a / 2 ^ k % b + a / 2 ^ k % b - b = a / 2 ^ (k - 1) % b := by
 rw [div_halves hk,ht,(div_core hb (Nat.zero_le 1)).2,if_pos (by omega)]; omega
theorem div_f0 (ht : a / 2 ^ (k - 1) % 2 = 0) (hge : a / 2 ^ k % b + a / 2 ^ k % b < b) : a / 2 ^ k % b + a / 2 ^ k % b = a / 2 ^ (k - 1) % b := by
 rw [div_halves hk,ht,(div_core hb (Nat.zero_le 1)).2,if_neg (by omega)]; omega
omit hb in
theorem pow_half : 2 ^ k = 2 ^ (k - 1) * 2 := by rw [<- Nat.pow_succ]; congr 1; omega
theorem divv_f1 {out : List Nat} (ht : a / 2 ^ (k - 1) % 2 = 1) (hge : a / 2 ^ k % b + a / 2 ^ k % b + 1 < b) (hv : val out = 2 ^ k * (a / 2 ^ k / b)) : val out = 2 ^ (k - 1) * (a / 2 ^ (k - 1) / b) := by
 have e : a / 2 ^ (k - 1) / b = 2 * (a / 2 ^ k / b) := by rw [div_halves hk,ht,(div_core hb (Nat.le_refl 1)).1,if_neg (by omega)]; rfl
 rw [hv,e,pow_half hk,Nat.mul_assoc]
theorem divv_f0 {out : List Nat} (ht : a / 2 ^ (k - 1) % 2 = 0) (hge : a / 2 ^ k % b + a / 2 ^ k % b < b) (hv : val out = 2 ^ k * (a / 2 ^ k / b)) : val out = 2 ^ (k - 1) * (a / 2 ^ (k - 1) / b) := by
 have e : a / 2 ^ (k - 1) / b = 2 * (a / 2 ^ k / b) := by rw [div_halves hk,ht,(div_core hb (Nat.zero_le 1)).1,if_neg (by omega)]; rfl
 rw [hv,e,pow_half hk,Nat.mul_assoc]
omit hk hb in
theorem set_bit {out : List Nat} {i q : Nat} (hi : i / 32 < out.length) (hf : Fit out) (hv : val out = 2 ^ (i + 1) * q) :
 val (out.set (i / 32) (out.getD (i / 32) 0 ||| 1 * 2 ^ (i % 32))) = 2 ^ i * (2 * q + 1) := by
 have hg : out.getD (i / 32) 0 = val out / B32 ^ (i / 32) % B32 := val_getD hf hi
 have e : B32 = 2 ^ 32 := rfl
 have hm : out.getD (i / 32) 0 % 2 ^ (i % 32 + 1) = 0 := by
  rw [hg,hv,e, <- Nat.pow_mul]
  have h1 : (2:Nat) ^ (i + 1) = 2 ^ (32 * (i / 32)) * 2 ^ (i % 32 + 1) := by rw [<- Nat.pow_add]; congr 1; omega
  rw [h1,Nat.mul_assoc,Nat.mul_div_cancel_left _ (Nat.pow_pos (by decide))]
  have h2 : (2:Nat) ^ 32 = 2 ^ (i % 32 + 1) * 2 ^ (31 - i % 32) := by rw [<- Nat.pow_add]; congr 1; omega
  rw [h2,Nat.mod_mul_right_mod,Nat.mul_mod_right]
 have hor : (out.getD (i / 32) 0 ||| 1 * 2 ^ (i % 32)) = out.getD (i / 32) 0 + 2 ^ (i % 32) := by
  obtain ⟨c,hc⟩ := Nat.dvd_of_mod_eq_zero hm
  rw [hc,Nat.one_mul, <- Nat.two_pow_add_eq_or_of_lt (Nat.pow_lt_pow_right (by decide) (by omega))]
 have hs := val_set out (i / 32) (out.getD (i / 32) 0 + 2 ^ (i % 32)) hi
 rw [hor]
 have hp : 2 ^ (i % 32) * B32 ^ (i / 32) = 2 ^ i := by rw [e, <- Nat.pow_mul, <- Nat.pow_add]; congr 1; omega
 rw [Nat.add_mul,hp,hv,Nat.pow_succ] at hs
 rw [Nat.mul_add,Nat.mul_one]
 have : 2 ^ i * 2 * q = 2 ^ i * (2 * q) := by rw [Nat.mul_assoc]
 omega
theorem divv_t1 {out : List Nat} (ht : a / 2 ^ (k - 1) % 2 = 1) (hge : b <= a / 2 ^ k % b + a / 2 ^ k % b + 1) (hl : out.length = (digs a).length) (hf : Fit out) (hbz : k <= 32 * (digs a).length) (hv : val out = 2 ^ k * (a / 2 ^ k / b)) :
 val (out.set ((k - 1) / 32) (out.getD ((k - 1) / 32) 0 ||| 1 * 2 ^ ((k - 1) % 32))) = 2 ^ (k - 1) * (a / 2 ^ (k - 1) / b) := by
 have e : a / 2 ^ (k - 1) / b = 2 * (a / 2 ^ k / b) + 1 := by rw [div_halves hk,ht,(div_core hb (Nat.le_refl 1)).1,if_pos (by omega)]
 rw [e]
 exact set_bit (by omega) hf (by rw [hv]; congr 2; omega)
theorem divv_t0 {out : List Nat} (ht : a / 2 ^ (k - 1) % 2 = 0) (hge : b <= a / 2 ^ k % b + a / 2 ^ k % b) (hl : out.length = (digs a).length) (hf : Fit out) (hbz : k <= 32 * (digs a).length) (hv : val out = 2 ^ k * (a / 2 ^ k / b)) :
 val (out.set ((k - 1) / 32) (out.getD ((k - 1) / 32) 0 ||| 1 * 2 ^ ((k - 1) % 32))) = 2 ^ (k - 1) * (a / 2 ^ (k - 1) / b) := by
 have e : a / 2 ^ (k - 1) / b = 2 * (a / 2 ^ k / b) + 1 := by rw [div_halves hk,ht,(div_core hb (Nat.zero_le 1)).1,if_pos (by omega)]
 rw [e]
 exact set_bit (by omega) hf (by rw [hv]; congr 2; omega)
end divs
theorem gcd_both {x y t G : Nat} (hx : x % 2 = 0) (hy : y % 2 = 0) (h : 2 ^ t * Nat.gcd x y = G) : 2 ^ (t + 1) * Nat.gcd (x / 2) (y / 2) = G := by
 obtain ⟨m,rfl⟩ := Nat.dvd_of_mod_eq_zero hx
 obtain ⟨n,rfl⟩ := Nat.dvd_of_mod_eq_zero hy
 rw [Nat.mul_div_cancel_left _ (by decide),Nat.mul_div_cancel_left _ (by decide), <- h,Nat.gcd_mul_left,Nat.pow_succ,Nat.mul_assoc]
theorem gcd_odd {x y : Nat} (hy : y ≠ 0) (h : ¬ (x % 2 = 0 /\ y % 2 = 0)) : Nat.gcd x y % 2 = 1 := by
 rcases Nat.mod_two_eq_zero_or_one (Nat.gcd x y) with h2 | h2
 · exfalso
   have hd := Nat.dvd_of_mod_eq_zero h2
   exact h ⟨Nat.mod_eq_zero_of_dvd (Nat.dvd_trans hd (Nat.gcd_dvd_left ..)),Nat.mod_eq_zero_of_dvd (Nat.dvd_trans hd (Nat.gcd_dvd_right ..))⟩
 · exact h2
theorem gcd_half_l {x y G : Nat} (ho : G % 2 = 1) (hx : x % 2 = 0) (h : Nat.gcd x y = G) : Nat.gcd (x / 2) y = G := by
 obtain ⟨m,rfl⟩ := Nat.dvd_of_mod_eq_zero hx
 rw [Nat.mul_div_cancel_left _ (by decide)]
 apply Nat.dvd_antisymm
 · rw [<- h]; exact Nat.dvd_gcd (Nat.dvd_trans (Nat.gcd_dvd_left ..) (Nat.dvd_mul_left ..)) (Nat.gcd_dvd_right ..)
 · have h1 : G ∣ 2 * m := h ▸ Nat.gcd_dvd_left ..
   have h2 : G ∣ y := h ▸ Nat.gcd_dvd_right ..
   have hc : Nat.Coprime G 2 := by
    rw [Nat.coprime_comm,Nat.Coprime,Nat.gcd_rec,ho]; rfl
   exact Nat.dvd_gcd (hc.dvd_of_dvd_mul_left h1) h2
theorem gcd_half_r {x y G : Nat} (ho : G % 2 = 1) (hy : y % 2 = 0) (h : Nat.gcd x y = G) : Nat.gcd x (y / 2) = G := by
 rw [Nat.gcd_comm]; exact gcd_half_l ho hy (by rw [Nat.gcd_comm]; exact h)
theorem gcd_sub {x y G : Nat} (hle : x <= y) (h : Nat.gcd x y = G) : Nat.gcd x (y - x) = G := by
 rw [<- h]; exact Nat.gcd_sub_self_right hle
theorem gcd_swap_sub {x y G : Nat} (hlt : y < x) (h : Nat.gcd x y = G) : Nat.gcd y (x - y) = G := by
 rw [Nat.gcd_sub_self_right (Nat.le_of_lt hlt),Nat.gcd_comm]; exact h
theorem not_gt_of {x y : Nat} (h : ¬ ((0 : Nat) : Int) < cmpN x y) : x <= y := by have := cmpN_pos (a := x) (b := y); omega
theorem dbl_pow (x i : Nat) : x * 2 ^ i + x * 2 ^ i = x * 2 ^ (i + 1) := by rw [Nat.pow_succ]; grind
theorem pow_bound {t g a b : Nat} (ha : a ≠ 0) (h : 2 ^ t * g = Nat.gcd a b) : t <= 32 * sz a := by
 have h1 := Nat.gcd_le_left b (Nat.pos_of_ne_zero ha)
 have h0 : 0 < Nat.gcd a b := Nat.gcd_pos_of_pos_left b (Nat.pos_of_ne_zero ha)
 have hg : 0 < g := by
  rcases Nat.eq_zero_or_pos g with e | e
  · rw [e,Nat.mul_zero] at h; omega
  · exact e
 have h2 : 2 ^ t <= a := by
  have := Nat.le_mul_of_pos_right (2 ^ t) hg
  omega
 have h3 : a < 2 ^ (32 * sz a) := by rw [Nat.pow_mul]; exact lt_sz a
 exact Nat.le_of_lt ((Nat.pow_lt_pow_iff_right (by decide)).1 (Nat.lt_of_le_of_lt h2 h3))
theorem gcd_one {n d : Nat} (h : n = 1 \/ d = 1) : 1 = Nat.gcd n d := by
 rcases h with rfl | rfl
 · rw [Nat.gcd_one_left]
 · rw [Nat.gcd_one_right]
end Go.Ear
namespace Go.Ear
def lowF (f : Fr) : Nat := if val f.d = 0 then 1 else val f.d
theorem lowF_ne (f : Fr) : lowF f ≠ 0 := by unfold lowF; split <;> omega
theorem Fr.rat_eq (f : Fr) : f.rat = ratOf f.neg (val f.n) (lowF f) := rfl
theorem sz_lowF {f : Fr} (h : Fit f.d) : sz (lowF f) <= bf f := by
 unfold lowF
 split
 · rw [sz_one]; exact bf_pos f
 · exact Nat.le_trans (sz_len h) (bf_d f)
theorem sz_valn {f : Fr} (h : Fit f.n) : sz (val f.n) <= bf f := Nat.le_trans (sz_len h) (bf_n f)
theorem ratOf_div (s : Bool) (n d : Nat) : ratOf s n d = ((sgn s n : Int) : Rat) / ((d : Int) : Rat) := by
 unfold ratOf sgn
 rw [Rat.mkRat_eq_div]; rfl
theorem nc_ne {d : Nat} (h : d ≠ 0) : ((d : Int) : Rat) ≠ 0 := fun e => h (by have := Rat.intCast_inj.1 (e.trans Rat.intCast_zero.symm); omega)
theorem add_s {s : Bool} {n d m e : Nat} (hd : d ≠ 0) (he : e ≠ 0) : ratOf s (n * e + m * d) (d * e) = ratOf s n d + ratOf s m e := by
 rw [ratOf_div,ratOf_div,ratOf_div]
 have h1 := nc_ne hd
 have h2 := nc_ne he
 have h3 : ((sgn s (n * e + m * d) : Int) : Rat) = (sgn s n : Int) * ((e : Int) : Rat) + (sgn s m : Int) * ((d : Int) : Rat) := by
  rw [<- Rat.intCast_mul, <- Rat.intCast_mul, <- Rat.intCast_add]
  congr 1
  unfold sgn; split <;> simp <;> grind
 have h4 : ((((d * e : Nat) : Int)) : Rat) = ((d : Int) : Rat) * ((e : Int) : Rat) := by rw [<- Rat.intCast_mul]; rfl
 rw [h3,h4]
 grind
theorem sub_s {s t : Bool} {n d m e : Nat} (hd : d ≠ 0) (he : e ≠ 0) (hst : s ≠ t) (hle : m * d <= n * e) : ratOf s (n * e - m * d) (d * e) = ratOf s n d + ratOf t m e := by
 rw [ratOf_div,ratOf_div,ratOf_div]
 have h1 := nc_ne hd
 have h2 := nc_ne he
 have h3 : ((sgn s (n * e - m * d) : Int) : Rat) = (sgn s n : Int) * ((e : Int) : Rat) + (sgn t m : Int) * ((d : Int) : Rat) := by
  rw [<- Rat.intCast_mul, <- Rat.intCast_mul, <- Rat.intCast_add]
  congr 1
  have e3 : ((n * e - m * d : Nat) : Int) = (n : Int) * e - m * d := by rw [Int.ofNat_sub hle]; simp
  unfold sgn
  cases s <;> cases t <;> first | exact absurd rfl hst | (simp only [Bool.false_eq_true,if_false,if_true,e3]; grind)
 have h4 : ((((d * e : Nat) : Int)) : Rat) = ((d : Int) : Rat) * ((e : Int) : Rat) := by rw [<- Rat.intCast_mul]; rfl
 rw [h3,h4]
 grind
theorem sub_s' {s t : Bool} {n d m e : Nat} (hd : d ≠ 0) (he : e ≠ 0) (hst : s ≠ t) (hlt : n * e <= m * d) : ratOf t (m * d - n * e) (d * e) = ratOf s n d + ratOf t m e := by
 rw [Nat.mul_comm d e,Rat.add_comm]; exact sub_s he hd (fun h => hst h.symm) hlt
theorem mul_s {s t : Bool} {n d m e : Nat} (hd : d ≠ 0) (he : e ≠ 0) : ratOf (s != t) (n * m) (d * e) = ratOf s n d * ratOf t m e := by
 rw [ratOf_div,ratOf_div,ratOf_div]
 have h1 := nc_ne hd
 have h2 := nc_ne he
 have h3 : ((sgn (s != t) (n * m) : Int) : Rat) = (sgn s n : Int) * (sgn t m : Int) := by
  rw [<- Rat.intCast_mul]
  congr 1
  unfold sgn
  cases s <;> cases t <;> simp <;> grind
 have h4 : ((((d * e : Nat) : Int)) : Rat) = ((d : Int) : Rat) * ((e : Int) : Rat) := by rw [<- Rat.intCast_mul]; rfl
 rw [h3,h4]
 grind
theorem neg_s {s : Bool} {n d : Nat} : ratOf (!s) n d = -ratOf s n d := by
 rw [ratOf_div,ratOf_div]
 have h3 : ((sgn (!s) n : Int) : Rat) = -((sgn s n : Int) : Rat) := by
  rw [<- Rat.intCast_neg]
  congr 1
  unfold sgn
  cases s <;> simp
 rw [h3]
 grind
theorem inv_s {s : Bool} {n d : Nat} (hn : n ≠ 0) (hd : d ≠ 0) : ratOf s d n = (ratOf s n d)⁻¹ := by
 rw [ratOf_div,ratOf_div]
 have h1 := nc_ne hd
 have h2 := nc_ne hn
 cases s
 · show ((d : Int) : Rat) / ((n : Int) : Rat) = (((n : Int) : Rat) / ((d : Int) : Rat))⁻¹
   grind
 · show ((-(d : Int) : Int) : Rat) / ((n : Int) : Rat) = (((-(n : Int) : Int) : Rat) / ((d : Int) : Rat))⁻¹
   rw [Rat.intCast_neg,Rat.intCast_neg]
   grind
theorem rat_zero_iff {f : Fr} : f.rat = 0 ↔ val f.n = 0 := by
 rw [Fr.rat_eq,ratOf_div]
 have h1 := nc_ne (lowF_ne f)
 constructor
 · intro h
   have h2 : ((sgn f.neg (val f.n) : Int) : Rat) = 0 := by grind
   have h3 := Rat.intCast_inj.1 (h2.trans Rat.intCast_zero.symm)
   unfold sgn at h3
   split at h3 <;> omega
 · intro h
   rw [h]
   have : sgn f.neg 0 = 0 := by unfold sgn; split <;> rfl
   rw [this,Rat.intCast_zero]; grind
theorem int_s {n : Int} : ratOf (decide (n < 0)) n.natAbs 1 = (n : Rat) := by
 rw [ratOf_div]
 have h : sgn (decide (n < 0)) n.natAbs = n := by
  unfold sgn
  by_cases h : n < 0
  · rw [if_pos (by simpa using h)]; omega
  · rw [if_neg (by simpa using h)]; omega
 rw [h]
 have : (((1 : Nat) : Int) : Rat) = 1 := rfl
 rw [this]; grind
theorem quot_s {n d : Int} (hd : d ≠ 0) : ratOf (decide (n < 0) != decide (d < 0)) n.natAbs d.natAbs = (n : Rat) / (d : Rat) := by
 have h1 : d.natAbs ≠ 0 := by omega
 have := mul_s (s := decide (n < 0)) (t := decide (d < 0)) (n := n.natAbs) (d := 1) (m := 1) (e := d.natAbs) (by decide) h1
 rw [Nat.mul_one,Nat.one_mul] at this
 rw [this,int_s,inv_s (n := d.natAbs) (d := 1) h1 (by decide),int_s,Rat.div_def]
theorem sign_s {f : Fr} : sgQ f.rat = if val f.n = 0 then 0 else if f.neg = true then -1 else 1 := by
 unfold sgQ
 by_cases h : val f.n = 0
 · rw [if_pos (rat_zero_iff.2 h),if_pos h]
 · rw [if_neg (fun e => h (rat_zero_iff.1 e)),if_neg h]
   have hn := ratOf_neg (s := f.neg) (n := val f.n) (lowF_ne f)
   have hp : 0 < val f.n / Nat.gcd (val f.n) (lowF f) := Nat.div_pos (Nat.gcd_le_left _ (Nat.pos_of_ne_zero h)) (gcd_pos' (lowF_ne f))
   rw [decide_eq_true hp,Bool.and_true, <- Fr.rat_eq] at hn
   by_cases hs : f.neg = true
   · rw [hs] at hn
     rw [if_pos (of_decide_eq_true hn.symm),if_pos hs]
   · rw [if_neg hs]
     rw [Bool.not_eq_true] at hs
     rw [hs] at hn
     rw [if_neg (of_decide_eq_false hn.symm)]
def sameF (f g : Fr) : Bool := decide (f.neg = g.neg) && (decide (f.n = g.n) && decide (f.d = g.d))
theorem take_eq_succ {a b : List Nat} {k : Nat} (ha : k < a.length) (hb : k < b.length) (h : a.take k = b.take k) (he : a.getD k 0 = b.getD k 0) : a.take (k + 1) = b.take (k + 1) := by
 rw [take_snoc 0 ha,take_snoc 0 hb,h,he]
theorem ne_of_getD {a b : List Nat} {k : Nat} (h : a.getD k 0 ≠ b.getD k 0) : ¬ a = b := fun e => h (by rw [e])
section
variable {a b : Fr}
theorem add_F (h : a.neg = b.neg) : ratOf a.neg (val a.n * lowF b + val b.n * lowF a) (lowF a * lowF b) = a.rat + b.rat := by
 rw [Fr.rat_eq a,Fr.rat_eq b, <- h]; exact add_s (lowF_ne a) (lowF_ne b)
theorem sub_F (h : ¬ a.neg = b.neg) (hle : val b.n * lowF a <= val a.n * lowF b) : ratOf a.neg (val a.n * lowF b - val b.n * lowF a) (lowF a * lowF b) = a.rat + b.rat :=
 sub_s (lowF_ne a) (lowF_ne b) h hle
theorem sub_F' (h : ¬ a.neg = b.neg) (hle : val a.n * lowF b <= val b.n * lowF a) : ratOf b.neg (val b.n * lowF a - val a.n * lowF b) (lowF a * lowF b) = a.rat + b.rat :=
 sub_s' (lowF_ne a) (lowF_ne b) h hle
theorem neg_F : (Fr.mk (!a.neg) a.n a.d).rat = -a.rat := neg_s
end
theorem any_of_getD {α : Type} {p : α -> Bool} {l : List α} {k : Nat} {d : α} (hk : k < l.length) (hp : p (l.getD k d) = true) : l.any p = true := by
 rw [List.any_eq_true]
 refine ⟨l.getD k d, ?_,hp⟩
 rw [List.getD_eq_getElem?_getD,List.getElem?_eq_getElem hk]; exact List.getElem_mem hk
end Go.Ear
namespace Go.Ear
section ops
variable  {n : Nat}    {d : Tmp}  {pos : String} {af : Array Edge} {g : Option (Nat × Bool)}
end ops
end Go.Ear
namespace Go.E3
open Go Go.Ear
section
variable {P : Program} {n : Nat} {X : Fix} {ms : List Nat} {loc env : EL} {B : List Res} {c : Code} {k : Kt}
theorem gNl {α : Type} (r : Rp α) (e : TypeId) (g : GW P n X ms loc env (rA r e (.slice none 0 0) [] :: B) c k) : GW P n X ms loc env B c k := ⟨fun ρ h w s => g.p ρ h w ⟨s.gr,s.lo,s.en,OwnL.nil r 0 h w e,(fun i hi => by cases hi),(fun r' hr' i hi => by cases hi),s.ow⟩⟩
end
section
variable {P : Program} {n : Nat} {X : Fix} {ms : List Nat} {loc env env' : EL} {B : List Res} {ol rest : List Oper} {k : Kt}
theorem gDr (m : Nat) {id : Nat} [mx : MixO P] (c : (dagC ol m (env.map (·.1)) && ol.all noDefer) = true) (g : GE P n X ms [] env B ol ol k (fun _ => false) m 0 (fun _ => []) []) : GW P n X ms loc env B (.region id ol.toArray true) k :=
 dag_sound mx.h (Bool.and_eq_true_iff.1 c).1 (Bool.and_eq_true_iff.1 c).2 (g.p fun _ _ h => h)
theorem gDrL (lt : Nat -> Bool) (m : Nat) {id : Nat} [mx : MixO P] (c : (dagC ol m (env.map (·.1)) && ol.all noDefer) = true) (g : GE P n X ms [] env B ol ol k lt m 0 (fun _ => []) []) : GW P n X ms loc env B (.region id ol.toArray true) k :=
 dag_sound mx.h (Bool.and_eq_true_iff.1 c).1 (Bool.and_eq_true_iff.1 c).2 (g.p fun _ _ h => h)
end
instance (priority := low) {B : List Res} : MtB B B True [] := ⟨fun _ => .perm (by rw [List.append_nil])⟩
instance (priority := high) {b : Option Addr} {l c : Nat} {v : Value} : EqS (.cv (.slice b l c)) (ov v) (v = .slice b l c) := ⟨fun e h u d => by subst e; exact ⟨d,rfl⟩⟩
end Go.E3
set_option maxRecDepth 20000
set_option maxHeartbeats 2000000
set_option synthInstance.maxSize 1000
namespace Go.E3
open Go Go.Ear Go.Proofs
class VlE (l : List Nat) (n : outParam Nat) : Prop where h : val l = n
instance {n : Nat} : VlE (digs n) n := ⟨val_digs n⟩
instance (priority := low) {l : List Nat} : VlE l (val l) := ⟨rfl⟩
instance rtrim_c {l : List Nat} {n : Nat} {S : SV} [i : Vw uv S l] [f : FtL l] [e : VlE l n] : Ct Tryz.prog 50 [S] (l.length <= 1000000000000) (nv n) := by
 obtain rfl := e.h
 refine ct1 i (ctI Tryz.call50 Tryz.func50 Tryz.ntmps50 rfl Tryz.results50 rfl [] fun h0 w0 hl => ?_)
 repeat refine nx ?_
 refine gLp (fun k : Nat => [(3,iv k)]) (fun _ => []) (fun k => k <= l.length /\ trim (l.take k) = trim l) (fun k => k) l.length ⟨Nat.le_refl _,by rw [List.take_length]⟩ fun k ⟨h1,h2⟩ => ?_
 repeat refine nx ?_
 refine gIf (fun c => ?_) fun c => ?_ <;> repeat refine nx ?_
 · exact gBk (k - 1) ⟨by omega,by rw [<- h2, <- trim_take_zero (k := k - 1) (by omega) c.2,show k - 1 + 1 = k by omega]⟩ (by omega)
 · rw [digs_val f.h, <- h2,trim_take h1 c]
instance rorder_c {a b A B : Nat} {S T : SV} [i : Vw nv S a] [j : Vw nv T b] [p : Sz a A] [q : Sz b B] : Ct Tryz.prog 129 [S,T] (A <= 1073741824 /\ B <= 1073741824) (iv (cmpN a b)) := by
 refine ct2 i j (ctI Tryz.call129 Tryz.func129 Tryz.ntmps129 rfl Tryz.results129 rfl [] fun h0 w0 hl => ?_)
 have hp0 := p.h
 have hp1 := q.h
 unfold sz at hp0 hp1
 repeat first | refine nx ?_ | intro _
 refine gIf (fun c => ?_) fun c => ?_ <;> repeat first | refine nx ?_ | intro _
 · refine gIf (fun c => ?_) fun c => ?_ <;> repeat first | refine nx ?_ | intro _
   · exact (cmpN_lt (sz_lt (by unfold sz; omega))).symm
   · exact (cmpN_gt (sz_lt (by unfold sz; omega))).symm
 · have hlen : (digs a).length = (digs b).length := by omega
   refine gLp (fun k : Nat => [(5,iv ((k : Int) - 1))]) (fun _ => []) (fun k => k <= (digs a).length /\ (digs a).drop k = (digs b).drop k) (fun k => k) (digs a).length ⟨Nat.le_refl _,by rw [List.drop_length,hlen,List.drop_length]⟩ fun k ⟨hk,hd⟩ => ?_
   repeat first | refine nx ?_ | intro _
   refine gIf (fun c => ?_) fun c => ?_ <;> repeat first | refine nx ?_ | intro _
   · refine gIf (fun d => ?_) fun d => ?_ <;> repeat first | refine nx ?_ | intro _
     · refine gIf (fun e => ?_) fun e => ?_ <;> repeat first | refine nx ?_ | intro _
       · exact (cmpN_lt (cmp_at hlen (by omega) (by omega) hd (by omega))).symm
       · exact (cmpN_gt (cmp_at hlen.symm (by omega) (by omega) hd.symm (by omega))).symm
     · exact gBk (k - 1) ⟨by omega,drop_eq_succ (by omega) (by omega) (by rw [show k - 1 + 1 = k by omega]; exact hd) (by omega)⟩ (by omega)
   · exact (cmp_end hd (by omega)).symm
instance rplus_c {a b A B : Nat} {S T : SV} [i : Vw nv S a] [j : Vw nv T b] [p : Sz a A] [q : Sz b B] : Ct Tryz.prog 131 [S,T] (A <= 1073741824 /\ B <= 1073741824) (nv (a + b)) := by
 refine ct2 i j (ctI Tryz.call131 Tryz.func131 Tryz.ntmps131 rfl Tryz.results131 rfl [] fun h0 w0 hl => ?_)
 have hp0 := p.h
 have hp1 := q.h
 unfold sz at hp0 hp1
 repeat first | refine nx ?_ | intro _
 refine gNl rU 134 ?_
 generalize hM : max (digs a).length (digs b).length = M
 refine gLp (fun s : Nat × Nat × List Nat × Value => [(7,iv s.1),(6,.cv (.int .u64 (s.2.1 : Int))),(5,ov s.2.2.2)]) (fun s => [rA rU 134 s.2.2.2 s.2.2.1]) (fun s => s.1 <= M + 1 /\ s.2.2.1.length = s.1 /\ Fit s.2.2.1 /\ s.2.1 <= 1 /\ val s.2.2.1 + s.2.1 * B32 ^ s.1 = val ((digs a).take s.1) + val ((digs b).take s.1) /\ (s.1 <= M \/ s.2.1 = 0)) (fun s => 2 * (M + 1 - s.1) + s.2.1) (0,0,[],.slice none 0 0) ⟨Nat.zero_le _,rfl,(fun _ hx => by cases hx),Nat.zero_le _,by simp [val],.inl (Nat.zero_le _)⟩ fun ⟨k,c,out,v⟩ ⟨hk,hll,hf,hc,hv,hkc⟩ => ?_
 have bda := (digs_fit a).getD k
 have bdb := (digs_fit b).getD k
 have ga := fun h => getD_ge (l := digs a) (k := k) h
 have gb := fun h => getD_ge (l := digs b) (k := k) h
 have h32 : (2:Nat)^32 = 4294967296 := rfl
 dsimp only at *
 haveI : FtL out := ⟨hf⟩
 repeat first | refine nx ?_ | intro _
 refine gIf (fun c1 => ?_) fun c1 => ?_ <;> repeat first | refine nx ?_ | intro _
 · refine gJ [(6,.cv (.int .u64 ((c + (digs a).getD k 0 : Nat) : Int)))] (fun c2 => ?_) (fun c2 => ?_) ?_ <;> repeat first | refine nx ?_ | intro _
   · exact gM
   · exact gM (by rw [getD_ge (by omega)]; exact ⟨rfl,by trivial⟩)
   · refine gJ [(6,.cv (.int .u64 ((c + (digs a).getD k 0 + (digs b).getD k 0 : Nat) : Int)))] (fun c3 => ?_) (fun c3 => ?_) ?_ <;> repeat first | refine nx ?_ | intro _
     · exact gM
     · exact gM (by rw [getD_ge (l := digs b) (by omega)]; exact ⟨rfl,by trivial⟩)
     · rename_i v'
       exact gBk (k + 1,(c + (digs a).getD k 0 + (digs b).getD k 0) / 2 ^ 32,out ++ [(c + (digs a).getD k 0 + (digs b).getD k 0) % 4294967296],v') ⟨by dsimp only; omega,by dsimp only; rw [List.length_append,hll]; rfl,Fit.snoc hf (Nat.mod_lt _ (by decide)),by dsimp only; omega,plus_step hll hv,by dsimp only; omega⟩ (by dsimp only; omega)
 · have hc0 : c = 0 := by omega
   rw [hc0] at hv
   rw [plus_close (by omega) (by omega) hv]
end Go.E3
