/- K13: a part of the proof about training through the decoder: how the program's functions run, and what they compute, for every input. -/
import Derived.Test.YtdciabokggfpbaaGreatK12
set_option linter.all false
namespace Go.Ear
theorem val_append (a b : List Nat) : val (a ++ b) = val a + B32 ^ a.length * val b := by
 induction a with
 | nil => simp [val]
 | cons x a ih => simp only [List.cons_append,val,ih,List.length_cons,Nat.pow_succ]; grind
theorem val_replicate (n : Nat) : val (List.replicate n 0) = 0 := by
 induction n with
 | zero => rfl
 | succ n ih => simp [List.replicate_succ,val,ih]
theorem val_snoc (a : List Nat) (x : Nat) : val (a ++ [x]) = val a + x * B32 ^ a.length := by
 rw [val_append]; simp only [val]; grind
theorem val_take_succ {l : List Nat} {k : Nat} (h : k < l.length) : val (l.take (k + 1)) = val (l.take k) + l.getD k 0 * B32 ^ k := by
 rw [List.take_succ_eq_append_getElem h,val_snoc,List.length_take,Nat.min_eq_left (Nat.le_of_lt h)]
 simp [List.getD_eq_getElem?_getD,h]
theorem val_take_all {l : List Nat} {k : Nat} (h : l.length <= k) : val (l.take k) = val l := by rw [List.take_of_length_le h]
theorem val_set (l : List Nat) (i x : Nat) (h : i < l.length) : val (l.set i x) + l.getD i 0 * B32 ^ i = val l + x * B32 ^ i := by
 induction l generalizing i with
 | nil => simp at h
 | cons y l ih =>
   cases i with
   | zero => simp [val]; omega
   | succ i =>
     have := ih i (by simpa using h)
     simp only [List.set_cons_succ,val,List.getD_cons_succ,Nat.pow_succ]
     grind
theorem Fit.cons {x : Nat} {l : List Nat} (f : Fit (x :: l)) : x < B32 /\ Fit l := ⟨f x (List.mem_cons_self ..),fun y hy => f y (List.mem_cons_of_mem _ hy)⟩
theorem Fit.take {l : List Nat} (f : Fit l) (k : Nat) : Fit (l.take k) := fun x hx => f x (List.mem_of_mem_take hx)
theorem val_lt {l : List Nat} (f : Fit l) : val l < B32 ^ l.length := by
 induction l with
 | nil => simp [val]
 | cons x l ih =>
   obtain ⟨hx,fl⟩ := f.cons
   have := ih fl
   simp only [val,List.length_cons,Nat.pow_succ]
   have h2 : B32 * (val l + 1) <= B32 * B32 ^ l.length := Nat.mul_le_mul_left _ this
   rw [Nat.mul_add,Nat.mul_one] at h2
   rw [Nat.mul_comm (B32 ^ l.length)]
   omega
theorem digs_zero : digs 0 = [] := by unfold digs; simp
theorem digs_pos {n : Nat} (h : n ≠ 0) : digs n = (n % B32) :: digs (n / B32) := by rw [digs]; simp [h]
theorem B32_pos : 0 < B32 := by decide
theorem digs_val {l : List Nat} (f : Fit l) : digs (val l) = trim l := by
 induction l with
 | nil => simp [val,digs_zero,trim]
 | cons x l ih =>
   obtain ⟨hx,fl⟩ := f.cons
   simp only [trim]
   by_cases h : x + B32 * val l = 0
   · have hx0 : x = 0 := by omega
     have hv : val l = 0 := by
      have := B32_pos
      rcases Nat.eq_zero_or_pos (val l) with h' | h'
      · exact h'
      · have := Nat.mul_pos this h'; omega
     have : trim l = [] := by rw [<- ih fl,hv,digs_zero]
     rw [if_pos ⟨this,hx0⟩]
     simp [val,h,digs_zero]
   · have hn : ¬ (trim l = [] /\ x = 0) := by
      rintro ⟨ht,hx0⟩
      have : digs (val l) = [] := by rw [ih fl,ht]
      have hv : val l = 0 := by
       rcases Nat.eq_zero_or_pos (val l) with h' | h'
       · exact h'
       · rw [digs_pos (by omega)] at this; cases this
      rw [hv,hx0] at h; simp at h
     rw [if_neg hn]
     simp only [val]
     rw [digs_pos h,Nat.add_mul_mod_self_left,Nat.mod_eq_of_lt hx,Nat.add_mul_div_left _ _ B32_pos,Nat.div_eq_of_lt hx,Nat.zero_add,ih fl]
theorem val_digs (n : Nat) : val (digs n) = n := by
 induction n using Nat.strongRecOn with
 | _ n ih =>
   by_cases h : n = 0
   · subst h; rw [digs_zero]; rfl
   · rw [digs_pos h]
     simp only [val]
     rw [ih _ (Nat.div_lt_self (Nat.pos_of_ne_zero h) (by decide))]
     exact Nat.mod_add_div n B32
theorem digs_fit (n : Nat) : Fit (digs n) := by
 induction n using Nat.strongRecOn with
 | _ n ih =>
   by_cases h : n = 0
   · subst h; rw [digs_zero]; intro x hx; cases hx
   · rw [digs_pos h]
     intro x hx
     rcases List.mem_cons.1 hx with rfl | hx
     · exact Nat.mod_lt _ (by decide)
     · exact ih _ (Nat.div_lt_self (Nat.pos_of_ne_zero h) (by decide)) x hx
def sz (n : Nat) : Nat := (digs n).length
theorem lt_sz (n : Nat) : n < B32 ^ sz n := by have := val_lt (digs_fit n); rwa [val_digs] at this
theorem sz_le {n k : Nat} (h : n < B32 ^ k) : sz n <= k := by
 induction k generalizing n with
 | zero => simp at h; subst h; simp [sz,digs_zero]
 | succ k ih =>
   by_cases h0 : n = 0
   · subst h0; simp [sz,digs_zero]
   · unfold sz
     rw [digs_pos h0,List.length_cons]
     have : n / B32 < B32 ^ k := by
      rw [Nat.div_lt_iff_lt_mul B32_pos, <- Nat.pow_succ]; exact h
     have := ih this
     unfold sz at this
     omega
theorem sz_mono {a b : Nat} (h : a <= b) : sz a <= sz b := sz_le (Nat.lt_of_le_of_lt h (lt_sz b))
theorem sz_mul (a b : Nat) : sz (a * b) <= sz a + sz b := by
 refine sz_le ?_
 rw [Nat.pow_add]
 exact Nat.mul_lt_mul'' (lt_sz a) (lt_sz b)
theorem sz_add (a b : Nat) : sz (a + b) <= max (sz a) (sz b) + 1 := by
 refine sz_le ?_
 rw [Nat.pow_succ]
 have h1 : a < B32 ^ max (sz a) (sz b) := Nat.lt_of_lt_of_le (lt_sz a) (Nat.pow_le_pow_right B32_pos (Nat.le_max_left ..))
 have h2 : b < B32 ^ max (sz a) (sz b) := Nat.lt_of_lt_of_le (lt_sz b) (Nat.pow_le_pow_right B32_pos (Nat.le_max_right ..))
 have : 2 <= B32 := by decide
 have := Nat.mul_le_mul_left (B32 ^ max (sz a) (sz b)) this
 omega
theorem sz_len {l : List Nat} (f : Fit l) : sz (val l) <= l.length := sz_le (val_lt f)
theorem sz_small {n : Nat} (h : n < 18446744073709551616) : sz n <= 2 := sz_le (Nat.lt_of_lt_of_le h (by decide))
theorem sz_zero : sz 0 = 0 := by simp [sz,digs_zero]
theorem sz_pos {n : Nat} (h : n ≠ 0) : 0 < sz n := by unfold sz; rw [digs_pos h]; simp
theorem sz_eq_zero {n : Nat} : sz n = 0 ↔ n = 0 := by
 constructor
 · intro h; rcases Nat.eq_zero_or_pos n with h' | h'
   · exact h'
   · have := sz_pos (n := n) (by omega); omega
 · rintro rfl; exact sz_zero
theorem sz_eq_one {n : Nat} (h : n ≠ 0) (h2 : n < B32) : sz n = 1 := by
 have := sz_pos h
 have := sz_le (n := n) (k := 1) (by simpa using h2)
 omega
theorem pow_sz_le {n : Nat} (h : n ≠ 0) : B32 ^ (sz n - 1) <= n := by
 rcases Nat.lt_or_ge n (B32 ^ (sz n - 1)) with hl | hl
 · have := sz_le hl; have := sz_pos h; omega
 · exact hl
theorem sz_lt {a b : Nat} (h : sz a < sz b) : a < b := by
 rcases Nat.lt_or_ge a b with h' | h'
 · exact h'
 · have := sz_mono h'; omega
theorem digs_top {n : Nat} (h : n ≠ 0) : (digs n).getD (sz n - 1) 0 ≠ 0 := by
 induction n using Nat.strongRecOn with
 | _ n ih =>
   unfold sz
   rw [digs_pos h]
   by_cases h1 : n / B32 = 0
   · rw [h1,digs_zero]
     simp
     have : n < B32 := by
      rcases Nat.lt_or_ge n B32 with h' | h'
      · exact h'
      · have := Nat.div_pos h' B32_pos; omega
     rw [Nat.mod_eq_of_lt this]; exact h
   · have := ih _ (Nat.div_lt_self (Nat.pos_of_ne_zero h) (by decide)) h1
     unfold sz at this
     have hp : 0 < (digs (n / B32)).length := sz_pos h1
     simp only [List.length_cons]
     rw [show (digs (n / B32)).length + 1 - 1 = ((digs (n / B32)).length - 1) + 1 by omega,List.getD_cons_succ]
     exact this
theorem digs_inj {a b : Nat} (h : digs a = digs b) : a = b := by rw [<- val_digs a,h,val_digs]
def cmpN (a b : Nat) : Int := if a < b then -1 else if b < a then 1 else 0
theorem cmpN_lt {a b : Nat} (h : a < b) : cmpN a b = -1 := by simp [cmpN,h]
theorem cmpN_gt {a b : Nat} (h : b < a) : cmpN a b = 1 := by simp [cmpN,h]; omega
theorem cmpN_eq (a : Nat) : cmpN a a = 0 := by simp [cmpN]
theorem cmpN_neg {a b : Nat} : cmpN a b < 0 ↔ a < b := by unfold cmpN; split <;> (try split) <;> omega
theorem cmpN_pos {a b : Nat} : 0 < cmpN a b ↔ b < a := by unfold cmpN; split <;> (try split) <;> omega
theorem val_lt_of {a b : List Nat} (fa : Fit a) (hl : a.length = b.length) {k : Nat} (hk : k < a.length) (heq : a.drop (k + 1) = b.drop (k + 1)) (hlt : a.getD k 0 < b.getD k 0) : val a < val b := by
 have e1 : a = a.take (k + 1) ++ a.drop (k + 1) := (List.take_append_drop _ _).symm
 have e2 : b = b.take (k + 1) ++ b.drop (k + 1) := (List.take_append_drop _ _).symm
 rw [e1,e2,val_append,val_append,heq,val_take_succ hk,val_take_succ (by omega)]
 have h1 := val_lt (fa.take k)
 rw [List.length_take,Nat.min_eq_left (Nat.le_of_lt hk)] at h1
 have h3 : (a.getD k 0 + 1) * B32 ^ k <= b.getD k 0 * B32 ^ k := Nat.mul_le_mul_right _ hlt
 rw [Nat.add_mul,Nat.one_mul] at h3
 simp only [List.length_take,Nat.min_eq_left (show k + 1 <= a.length from hk),Nat.min_eq_left (show k + 1 <= b.length by omega)]
 omega
theorem drop_eq_succ {a b : List Nat} {k : Nat} (ha : k < a.length) (hb : k < b.length) (h : a.drop (k + 1) = b.drop (k + 1)) (he : a.getD k 0 = b.getD k 0) : a.drop k = b.drop k := by
 rw [List.drop_eq_getElem_cons ha,List.drop_eq_getElem_cons hb,h]
 congr 1
 simpa [List.getD_eq_getElem?_getD,ha,hb] using he
theorem cmp_at {a b k : Nat} (hl : (digs a).length = (digs b).length) (h0 : 0 < k) (hk : k <= (digs a).length) (hd : (digs a).drop k = (digs b).drop k) (h : (digs a).getD (k - 1) 0 < (digs b).getD (k - 1) 0) : a < b := by
 have := val_lt_of (digs_fit a) hl (k := k - 1) (by omega) (by rw [show k - 1 + 1 = k by omega]; exact hd) h
 rwa [val_digs,val_digs] at this
theorem cmp_end {a b k : Nat} (hd : (digs a).drop k = (digs b).drop k) (hk : k = 0) : cmpN a b = 0 := by
 subst hk
 rw [List.drop_zero,List.drop_zero] at hd
 rw [digs_inj hd,cmpN_eq]
theorem getD_ge {l : List Nat} {k : Nat} (h : l.length <= k) : l.getD k 0 = 0 := by rw [List.getD_eq_getElem?_getD,List.getElem?_eq_none h]; rfl
theorem val_take_succ' (l : List Nat) (k : Nat) : val (l.take (k + 1)) = val (l.take k) + l.getD k 0 * B32 ^ k := by
 rcases Nat.lt_or_ge k l.length with h | h
 · exact val_take_succ h
 · rw [getD_ge h,List.take_of_length_le (by omega),List.take_of_length_le h]; omega
theorem take_set_self {l : List Nat} {k x : Nat} : (l.set k x).take k = l.take k := by rw [List.take_set_of_le (Nat.le_refl _)]
theorem getD_set_self {l : List Nat} {k x : Nat} (h : k < l.length) : (l.set k x).getD k 0 = x := by
 rw [List.getD_eq_getElem?_getD,List.getElem?_set_self h]; rfl
theorem add_step {out a b : List Nat} {k c : Nat} (_hk : k < out.length) (hv : val (out.take k) + c * B32 ^ k = val (a.take k) + val (b.take k)) :
 val ((out.set k ((c + a.getD k 0 + b.getD k 0) % 4294967296)).take (k + 1)) + (c + a.getD k 0 + b.getD k 0) / 2 ^ 32 * B32 ^ (k + 1) = val (a.take (k + 1)) + val (b.take (k + 1)) := by
 rw [val_take_succ',val_take_succ' a,val_take_succ' b,take_set_self,getD_set_self _hk,show B32 ^ (k + 1) = B32 ^ k * B32 from Nat.pow_succ ..]
 have e : (2 : Nat) ^ 32 = 4294967296 := rfl
 rw [e,B32_eq] at *
 have h := Nat.mod_add_div (c + a.getD k 0 + b.getD k 0) 4294967296
 generalize (c + a.getD k 0 + b.getD k 0) % 4294967296 = m at *
 generalize (c + a.getD k 0 + b.getD k 0) / 4294967296 = q at *
 generalize a.getD k 0 = x at *
 generalize b.getD k 0 = y at *
 generalize 4294967296 ^ k = p at *
 grind
theorem add_close {out : List Nat} {a b k c : Nat} (hk : k = max (digs a).length (digs b).length + 1) (hl : out.length = max (digs a).length (digs b).length + 1)
 (hv : val (out.take k) + c * B32 ^ k = val ((digs a).take k) + val ((digs b).take k)) : val out = a + b := by
 rw [val_take_all (by omega),val_take_all (by omega),val_take_all (by omega),val_digs,val_digs] at hv
 have h1 : a < B32 ^ max (digs a).length (digs b).length := Nat.lt_of_lt_of_le (lt_sz a) (Nat.pow_le_pow_right B32_pos (Nat.le_max_left ..))
 have h2 : b < B32 ^ max (digs a).length (digs b).length := Nat.lt_of_lt_of_le (lt_sz b) (Nat.pow_le_pow_right B32_pos (Nat.le_max_right ..))
 have hc : c = 0 := by
  rcases Nat.eq_zero_or_pos c with h | h
  · exact h
  · have h3 : 1 * B32 ^ k <= c * B32 ^ k := Nat.mul_le_mul_right _ h
    rw [hk,Nat.pow_succ,B32_eq] at h3
    rw [B32_eq] at h1 h2 hv
    rw [hk,Nat.pow_succ] at hv
    generalize 4294967296 ^ max (digs a).length (digs b).length = p at *
    omega
 subst hc
 omega
theorem getD_replicate (n t : Nat) : (List.replicate n 0).getD t 0 = 0 := by
 rw [List.getD_eq_getElem?_getD,List.getElem?_replicate]; split <;> rfl
theorem getD_set_ne {l : List Nat} {i t x : Nat} (h : i ≠ t) : (l.set i x).getD t 0 = l.getD t 0 := by
 rw [List.getD_eq_getElem?_getD,List.getElem?_set_ne h, <- List.getD_eq_getElem?_getD]
theorem mul_bd {x y : Nat} (hx : x < 4294967296) (hy : y < 4294967296) : x * y <= 18446744065119617025 := by
 have := Nat.mul_le_mul (Nat.le_of_lt_succ hx) (Nat.le_of_lt_succ hy); omega
theorem mul_inner {o a b : List Nat} {i j c A bb : Nat} (hk : i + j < o.length)
 (hv : val o + c * B32 ^ (i + j) = A * bb + a.getD i 0 * val (b.take j) * B32 ^ i) :
 val (o.set (i + j) ((c + (a.getD i 0 * b.getD j 0 + o.getD (i + j) 0)) % 4294967296)) + (c + (a.getD i 0 * b.getD j 0 + o.getD (i + j) 0)) / 2 ^ 32 * B32 ^ (i + (j + 1)) =
  A * bb + a.getD i 0 * val (b.take (j + 1)) * B32 ^ i := by
 have hs := val_set o (i + j) ((c + (a.getD i 0 * b.getD j 0 + o.getD (i + j) 0)) % 4294967296) hk
 rw [val_take_succ' b,show B32 ^ (i + (j + 1)) = B32 ^ (i + j) * B32 from by rw [<- Nat.add_assoc,Nat.pow_succ]]
 have e : (2 : Nat) ^ 32 = 4294967296 := rfl
 rw [Nat.pow_add] at *
 have h := Nat.mod_add_div (c + (a.getD i 0 * b.getD j 0 + o.getD (i + j) 0)) 4294967296
 rw [e,B32_eq] at *
 generalize (c + (a.getD i 0 * b.getD j 0 + o.getD (i + j) 0)) % 4294967296 = m at *
 generalize (c + (a.getD i 0 * b.getD j 0 + o.getD (i + j) 0)) / 4294967296 = q at *
 generalize a.getD i 0 = x at *
 generalize b.getD j 0 = y at *
 generalize o.getD (i + j) 0 = z at *
 generalize val (o.set (i + j) m) = V at *
 generalize val o = U at *
 generalize val (b.take j) = W at *
 generalize 4294967296 ^ i = p at *
 generalize 4294967296 ^ j = p2 at *
 grind
theorem mul_outer {o : List Nat} {a b i j c : Nat} (hj : j = (digs b).length) (hlt : i + (digs b).length < o.length) (hz : o.getD (i + (digs b).length) 0 = 0)
 (hv : val o + c * B32 ^ (i + j) = val ((digs a).take i) * b + (digs a).getD i 0 * val ((digs b).take j) * B32 ^ i) :
 val (o.set (i + (digs b).length) c) = val ((digs a).take (i + 1)) * b := by
 have hs := val_set o (i + (digs b).length) c hlt
 rw [hz,Nat.zero_mul,Nat.add_zero] at hs
 subst hj
 rw [hs,hv,List.take_length,val_digs,val_take_succ']
 grind
theorem or_shift (r x : Nat) (hx : x < 4294967296) : r * 2 ^ 32 ||| x = r * 2 ^ 32 + x := by
 rw [Nat.mul_comm,Nat.two_pow_add_eq_or_of_lt (i := 32) (by have : (2 : Nat) ^ 32 = 4294967296 := rfl; omega)]
theorem over_bd {r d x : Nat} (hr : r < d) (hx : x < 4294967296) : r * 2 ^ 32 + x < d * 4294967296 := by
 have e : (2 : Nat) ^ 32 = 4294967296 := rfl
 rw [e]
 have := Nat.mul_le_mul_right 4294967296 (Nat.succ_le_of_lt hr)
 rw [Nat.succ_mul] at this
 omega
theorem sh_bd {r d : Nat} (hr : r < d) (hd : d < 4294967296) : r * 2 ^ 32 < 18446744073709551616 := by
 have e : (2 : Nat) ^ 32 = 4294967296 := rfl
 rw [e]; omega
theorem sh_bd2 {r d x : Nat} (hr : r < d) (hd : d < 4294967296) (hx : x < 4294967296) : r * 2 ^ 32 ||| x < 18446744073709551616 := by
 rw [or_shift _ _ hx]
 have e : (2 : Nat) ^ 32 = 4294967296 := rfl
 rw [e]; omega
theorem drop_cons {l : List Nat} {k : Nat} (h : k < l.length) : l.drop k = l.getD k 0 :: l.drop (k + 1) := by
 rw [List.drop_eq_getElem_cons h]; simp [List.getD_eq_getElem?_getD,h]
theorem over_step {out a : List Nat} {k d r : Nat} (hk : 0 < k) (h1 : k <= out.length) (h2 : k <= a.length) (hv : val (out.drop k) * d + r = val (a.drop k)) :
 val ((out.set (k - 1) ((r * 2 ^ 32 + a.getD (k - 1) 0) / d)).drop (k - 1)) * d + (r * 2 ^ 32 + a.getD (k - 1) 0) % d = val (a.drop (k - 1)) := by
 obtain ⟨j,rfl⟩ : ∃ j,k = j + 1 := ⟨k - 1,by omega⟩
 simp only [Nat.add_sub_cancel]
 rw [drop_cons (l := out.set j _) (by simp; omega),drop_cons (l := a) (by omega),getD_set_self (by omega),List.drop_set_of_lt (by omega)]
 simp only [val]
 rw [<- hv]
 have e : (2 : Nat) ^ 32 = 4294967296 := rfl
 have h := Nat.mod_add_div (r * 4294967296 + a.getD j 0) d
 rw [e,B32_eq]
 generalize (r * 4294967296 + a.getD j 0) % d = m at *
 generalize (r * 4294967296 + a.getD j 0) / d = q at *
 generalize val (out.drop (j + 1)) = V at *
 grind
theorem over_q {out : List Nat} {a d r k : Nat} (hk : k = 0) (hr : r < d) (hv : val (out.drop k) * d + r = val ((digs a).drop k)) : val out = a / d := by
 subst hk
 rw [List.drop_zero,List.drop_zero,val_digs] at hv
 rw [<- hv,Nat.mul_comm,Nat.mul_add_div (by omega),Nat.div_eq_of_lt hr,Nat.add_zero]
theorem over_r {out : List Nat} {a d r k : Nat} (hk : k = 0) (hr : r < d) (hv : val (out.drop k) * d + r = val ((digs a).drop k)) : r = a % d := by
 subst hk
 rw [List.drop_zero,List.drop_zero,val_digs] at hv
 rw [<- hv,Nat.mul_comm,Nat.mul_add_mod,Nat.mod_eq_of_lt hr]
def bitlen (n : Nat) : Nat := if h : n = 0 then 0 else bitlen (n / 2) + 1
 termination_by n
 decreasing_by exact Nat.div_lt_self (Nat.pos_of_ne_zero h) (by decide)
theorem bitlen_zero : bitlen 0 = 0 := by rw [bitlen]; simp
theorem bitlen_pos {n : Nat} (h : n ≠ 0) : bitlen n = bitlen (n / 2) + 1 := by rw [bitlen]; simp [h]
theorem bitlen_shift {n s : Nat} (h : 2 ^ s <= n) : bitlen n = bitlen (n / 2 ^ s) + s := by
 induction s generalizing n with
 | zero => simp
 | succ s ih =>
   have h0 : n ≠ 0 := by have := Nat.two_pow_pos (s + 1); omega
   rw [bitlen_pos h0]
   have h2 : 2 ^ s <= n / 2 := by rw [Nat.le_div_iff_mul_le (by decide), <- Nat.pow_succ]; exact h
   rw [ih h2,Nat.div_div_eq_div_mul, <- Nat.pow_succ',Nat.add_assoc]
theorem bitlen_lt {n s : Nat} (h : n < 2 ^ s) : bitlen n <= s := by
 induction s generalizing n with
 | zero => simp at h; subst h; rw [bitlen_zero]; exact Nat.le_refl _
 | succ s ih =>
   by_cases h0 : n = 0
   · subst h0; rw [bitlen_zero]; omega
   · rw [bitlen_pos h0]
     have := ih (n := n / 2) (by rw [Nat.div_lt_iff_lt_mul (by decide), <- Nat.pow_succ]; exact h)
     omega
def hi16 (n : Nat) : Nat := if 65536 <= n then n / 2 ^ 16 else n
def lo16 (n : Nat) : Nat := if 65536 <= n then 16 else 0
def hi8 (n : Nat) : Nat := if 256 <= n then n / 2 ^ 8 else n
def lo8 (n : Nat) : Nat := if 256 <= n then 8 else 0
theorem lo16_le (n : Nat) : lo16 n <= 16 := by unfold lo16; split <;> omega
theorem lo8_le (n : Nat) : lo8 n <= 8 := by unfold lo8; split <;> omega
theorem hi16_lt {n : Nat} (h : n < 4294967296) : hi16 n < 65536 := by
 have e : (2 : Nat) ^ 16 = 65536 := rfl
 unfold hi16; rw [e]; split <;> omega
theorem hi_lt {n : Nat} (h : n < 4294967296) : hi8 (hi16 n) < 256 := by
 have := hi16_lt h
 have e : (2 : Nat) ^ 8 = 256 := rfl
 unfold hi8; rw [e]; split <;> omega
theorem bitlen_le {n : Nat} (h : n < 256) : bitlen n <= 8 := bitlen_lt (s := 8) h
theorem len32_eq {n : Nat} (_h : n < 4294967296) : bitlen n = lo16 n + lo8 (hi16 n) + bitlen (hi8 (hi16 n)) := by
 have h1 : bitlen n = bitlen (hi16 n) + lo16 n := by
  unfold hi16 lo16
  split
  · exact bitlen_shift (s := 16) (by have e : (2 : Nat) ^ 16 = 65536 := rfl; omega)
  · rfl
 have h2 : bitlen (hi16 n) = bitlen (hi8 (hi16 n)) + lo8 (hi16 n) := by
  unfold hi8 lo8
  split
  · exact bitlen_shift (s := 8) (by have e : (2 : Nat) ^ 8 = 256 := rfl; omega)
  · rfl
 omega
def len8L : List UInt8 := [0,1,2,2,3,3,3,3,4,4,4,4,4,4,4,4,5,5,5,5,5,5,5,5,5,5,5,5,5,5,5,5,6,6,6,6,6,6,6,6,6,6,6,6,6,6,6,6,6,6,6,6,6,6,6,6,6,6,6,6,6,6,6,6,7,7,7,7,7,7,7,7,7,7,7,7,7,7,7,7,7,7,7,7,7,7,7,7,7,7,7,7,7,7,7,7,7,7,7,7,7,7,7,7,7,7,7,7,7,7,7,7,7,7,7,7,7,7,7,7,7,7,7,7,7,7,7,7,8,8,8,8,8,8,8,8,8,8,8,8,8,8,8,8,8,8,8,8,8,8,8,8,8,8,8,8,8,8,8,8,8,8,8,8,8,8,8,8,8,8,8,8,8,8,8,8,8,8,8,8,8,8,8,8,8,8,8,8,8,8,8,8,8,8,8,8,8,8,8,8,8,8,8,8,8,8,8,8,8,8,8,8,8,8,8,8,8,8,8,8,8,8,8,8,8,8,8,8,8,8,8,8,8,8,8,8,8,8,8,8,8,8,8,8,8,8,8,8,8,8,8,8,8,8,8,8]
def len8 : ByteArray := ⟨len8L.toArray⟩
def bl (n : Nat) : Nat := if n = 0 then 0 else if n < 2 then 1 else if n < 4 then 2 else if n < 8 then 3 else if n < 16 then 4 else if n < 32 then 5 else if n < 64 then 6 else if n < 128 then 7 else 8
theorem bl_eq {n : Nat} (h : n < 256) : bitlen n = bl n := by
 have key : ∀ s m,2 ^ s <= m -> m < 2 ^ (s + 1) -> bitlen m = s + 1 := by
  intro s m h1 h2
  rw [bitlen_shift h1]
  have : m / 2 ^ s = 1 := by
   have hp := Nat.two_pow_pos s
   apply Nat.le_antisymm
   · have : m / 2 ^ s < 2 := by rw [Nat.div_lt_iff_lt_mul hp,Nat.mul_comm, <- Nat.pow_succ]; exact h2
     omega
   · exact (Nat.le_div_iff_mul_le hp).2 (by omega)
  rw [this,bitlen_pos (by decide),show 1 / 2 = 0 from rfl,bitlen_zero]; omega
 unfold bl
 split
 · rename_i h0; subst h0; exact bitlen_zero
 · (repeat' split) <;> first
    | exact key 0 n (by simp; omega) (by simp; omega)
    | exact key 1 n (by simp; omega) (by simp; omega)
    | exact key 2 n (by simp; omega) (by simp; omega)
    | exact key 3 n (by simp; omega) (by simp; omega)
    | exact key 4 n (by simp; omega) (by simp; omega)
    | exact key 5 n (by simp; omega) (by simp; omega)
    | exact key 6 n (by simp; omega) (by simp; omega)
    | exact key 7 n (by simp; omega) (by simp; omega)
theorem len8_all : ((List.range 256).all fun m => match len8L[m]? with | some b => Nat.beq b.toNat (bl m) | none => false) = true := by decide +kernel
theorem len8_at {n : Nat} (h : n < 256) : (len8[n]?).map (fun b => ((b.toNat : Nat) : Int)) = some (((bitlen n : Nat) : Int)) := by
 rw [bl_eq h]
 have h1 := List.all_eq_true.1 len8_all n (List.mem_range.2 h)
 have h2 : len8[n]? = len8L[n]? := by
  have hs : len8.size = 256 := by decide +kernel
  have hd : len8L.length = 256 := by decide +kernel
  rw [getElem?_pos len8 n (by omega),List.getElem?_eq_getElem (by omega)]; rfl
 rw [h2]
 cases hb : len8L[n]? with
 | none => rw [hb] at h1; cases h1
 | some b =>
   rw [hb] at h1
   simp only at h1
   rw [Option.map_some,Nat.eq_of_beq_eq_true h1]
theorem bitlen_digs {a : Nat} (h : (digs a).length ≠ 0) : bitlen a = 32 * ((digs a).length - 1) + bitlen ((digs a).getD ((digs a).length - 1) 0) := by
 induction a using Nat.strongRecOn with
 | _ a ih =>
   have ha : a ≠ 0 := by rintro rfl; rw [digs_zero] at h; exact h rfl
   rw [digs_pos ha]
   simp only [List.length_cons,Nat.add_sub_cancel]
   by_cases h1 : a / B32 = 0
   · rw [h1,digs_zero]
     have : a < B32 := by
      rcases Nat.lt_or_ge a B32 with h' | h'
      · exact h'
      · have := Nat.div_pos h' B32_pos; omega
     simp [Nat.mod_eq_of_lt this]
   · have hp : 0 < (digs (a / B32)).length := sz_pos h1
     have := ih (a / B32) (Nat.div_lt_self (Nat.pos_of_ne_zero ha) (by decide)) (by omega)
     have hb : 2 ^ 32 <= a := by
      have e : (2 : Nat) ^ 32 = B32 := rfl
      rw [e]
      rcases Nat.lt_or_ge a B32 with h' | h'
      · rw [Nat.div_eq_of_lt h'] at h1; exact absurd rfl h1
      · exact h'
     rw [bitlen_shift hb,show a / 2 ^ 32 = a / B32 from rfl,this]
     obtain ⟨m,hm⟩ : ∃ m,(digs (a / B32)).length = m + 1 := ⟨(digs (a / B32)).length - 1,by omega⟩
     rw [hm,Nat.add_sub_cancel,List.getD_cons_succ]
     omega
theorem drop_set_succ {l m : List Nat} {k x : Nat} (_h : k < l.length) (hd : l.drop k = m.drop k) : (l.set k x).drop (k + 1) = m.drop (k + 1) := by
 rw [List.drop_set_of_lt (by omega)]
 have := congrArg (List.drop 1) hd
 rwa [List.drop_drop,List.drop_drop] at this
theorem getD_of_drop {l m : List Nat} {k : Nat} (hd : l.drop k = m.drop k) : l.getD k 0 = m.getD k 0 := by
 have := congrArg (fun l : List Nat => l.getD 0 0) hd
 simpa [List.getD_eq_getElem?_getD,List.getElem?_drop] using this
theorem sub_step1 {out a b : List Nat} {k br : Nat} (hk : k < out.length) (_hb : b.getD k 0 < 4294967296) (hlt : out.getD k 0 < br + b.getD k 0) (hd : out.drop k = a.drop k)
 (hv : val (out.take k) + val (b.take k) = val (a.take k) + br * B32 ^ k) (_h1 : br <= 1 := by omega) :
 val ((out.set k ((out.getD k 0 + 4294967296) - (br + b.getD k 0))).take (k + 1)) + val (b.take (k + 1)) = val (a.take (k + 1)) + 1 * B32 ^ (k + 1) := by
 rw [val_take_succ',val_take_succ' a,val_take_succ' b,take_set_self,getD_set_self hk,show B32 ^ (k + 1) = B32 ^ k * B32 from Nat.pow_succ .., <- getD_of_drop hd]
 have hx : ((out.getD k 0 + 4294967296) - (br + b.getD k 0)) + (br + b.getD k 0) = out.getD k 0 + 4294967296 := by omega
 rw [B32_eq] at *
 generalize (out.getD k 0 + 4294967296) - (br + b.getD k 0) = q at *
 generalize out.getD k 0 = x at *
 generalize b.getD k 0 = y at *
 generalize 4294967296 ^ k = p at *
 grind
theorem sub_step2 {out a b : List Nat} {k br : Nat} (hk : k < out.length) (_hb : b.getD k 0 < 4294967296) (hge : ¬ out.getD k 0 < br + b.getD k 0) (hd : out.drop k = a.drop k)
 (hv : val (out.take k) + val (b.take k) = val (a.take k) + br * B32 ^ k) :
 val ((out.set k (out.getD k 0 - (br + b.getD k 0))).take (k + 1)) + val (b.take (k + 1)) = val (a.take (k + 1)) + 0 * B32 ^ (k + 1) := by
 rw [val_take_succ',val_take_succ' a,val_take_succ' b,take_set_self,getD_set_self hk,show B32 ^ (k + 1) = B32 ^ k * B32 from Nat.pow_succ .., <- getD_of_drop hd]
 have hx : (out.getD k 0 - (br + b.getD k 0)) + (br + b.getD k 0) = out.getD k 0 := by omega
 rw [B32_eq] at *
 generalize out.getD k 0 - (br + b.getD k 0) = q at *
 generalize out.getD k 0 = x at *
 generalize b.getD k 0 = y at *
 generalize 4294967296 ^ k = p at *
 grind
theorem sub_close {out : List Nat} {a b k br : Nat} (hk : k = (digs a).length) (hl : out.length = (digs a).length) (hf : Fit out) (hlb : (digs b).length <= (digs a).length) (hba : b <= a)
 (hv : val (out.take k) + val ((digs b).take k) = val ((digs a).take k) + br * B32 ^ k) : val out = a - b := by
 rw [val_take_all (by omega),val_take_all (by omega),val_take_all (by omega),val_digs,val_digs] at hv
 have h0 : br = 0 := by
  rcases Nat.eq_zero_or_pos br with h | h
  · exact h
  · have h3 : 1 * B32 ^ k <= br * B32 ^ k := Nat.mul_le_mul_right _ h
    have h4 : val out < B32 ^ k := by
     have := val_lt hf; rwa [hl, <- hk] at this
    omega
 subst h0
 omega
theorem trim_take {l : List Nat} {k : Nat} (hk : k <= l.length) (h : ¬ (0 < k /\ l.getD (k - 1) 0 = 0)) : trim (l.take k) = l.take k := by
 refine trim_of_last ?_
 by_cases h0 : k = 0
 · subst h0; exact .inl (by simp)
 · refine .inr ?_
   intro e
   refine h ⟨by omega, ?_⟩
   rw [List.length_take,Nat.min_eq_left hk] at e
   rw [List.getD_eq_getElem?_getD,List.getElem?_take,if_pos (by omega)] at e
   rw [List.getD_eq_getElem?_getD]; exact e
theorem small_val {n : Nat} (_h : n < 18446744073709551616) : val [n % 4294967296,n / 2 ^ 32] = n := by
 have e : (2 : Nat) ^ 32 = 4294967296 := rfl
 simp only [val,B32_eq,e]; omega
end Go.Ear
namespace Go.Ear
theorem add_u (x by_ : Nat) (h : by_ <= 32) : x * 2 ^ by_ % 2 ^ 32 = (x % 2 ^ (32 - by_)) * 2 ^ by_ := by
 have : (2 : Nat) ^ 32 = 2 ^ (32 - by_) * 2 ^ by_ := by rw [<- Nat.pow_add]; congr 1; omega
 rw [this,Nat.mul_mod_mul_right]
theorem or_low (o x by_ : Nat) (ho : o < 2 ^ by_) : o ||| x * 2 ^ by_ = o + x * 2 ^ by_ := by
 rw [Nat.or_comm,Nat.mul_comm, <- Nat.two_pow_add_eq_or_of_lt ho]; omega
theorem or_shl {o x by_ : Nat} (h : by_ <= 32) (ho : o < 2 ^ by_) : o ||| x * 2 ^ by_ % 4294967296 = o + (x % 2 ^ (32 - by_)) * 2 ^ by_ := by
 have : (4294967296 : Nat) = 2 ^ 32 := rfl
 rw [this,add_u x by_ h,or_low _ _ _ ho]
theorem or_shl_lt {o x by_ : Nat} (h : by_ <= 32) (ho : o < 2 ^ by_) : o ||| x * 2 ^ by_ % 4294967296 < 4294967296 :=
 Nat.or_lt_two_pow (n := 32) (Nat.lt_of_lt_of_le ho (Nat.pow_le_pow_right (by decide) h)) (Nat.mod_lt _ (by decide))
theorem hi_lt32 {x by_ : Nat} (h : by_ <= 32) (hx : x < 4294967296) : x / 2 ^ (32 - by_) < 2 ^ by_ := by
 refine Nat.div_lt_of_lt_mul ?_
 rw [<- Nat.pow_add,show 32 - by_ + by_ = 32 by omega]; exact hx
theorem pow_le32 {by_ : Nat} (h : by_ <= 32) : 2 ^ by_ <= 4294967296 := Nat.pow_le_pow_right (n := 2) (by decide) h
theorem shift_step {out A : List Nat} {i by_ x : Nat} (hi : i + 1 < out.length) (hby : by_ <= 32) (h0 : out.getD i 0 < 2 ^ by_) (h1 : out.getD (i + 1) 0 = 0) (hx : A.getD i 0 = x)
 (hv : val out = val (A.take i) * 2 ^ by_) :
 val ((out.set i (out.getD i 0 ||| x * 2 ^ by_ % 4294967296)).set (i + 1) (x / 2 ^ (32 - by_))) = val (A.take (i + 1)) * 2 ^ by_ := by
 have e1 := val_set (out.set i (out.getD i 0 ||| x * 2 ^ by_ % 4294967296)) (i + 1) (x / 2 ^ (32 - by_)) (by rw [List.length_set]; exact hi)
 have e2 := val_set out i (out.getD i 0 ||| x * 2 ^ by_ % 4294967296) (by omega)
 rw [getD_set_ne (by omega),h1] at e1
 rw [or_shl hby h0] at e1 e2 ⊢
 rw [val_take_succ',hx]
 have e3 : x = x / 2 ^ (32 - by_) * 2 ^ (32 - by_) + x % 2 ^ (32 - by_) := by rw [Nat.mul_comm]; exact (Nat.div_add_mod ..).symm
 have e4 : B32 = 2 ^ (32 - by_) * 2 ^ by_ := by rw [<- Nat.pow_add,show 32 - by_ + by_ = 32 by omega]; rfl
 generalize x / 2 ^ (32 - by_) = q at *
 generalize x % 2 ^ (32 - by_) = r at *
 generalize 2 ^ (32 - by_) = p at *
 generalize 2 ^ by_ = s at *
 generalize List.set (List.set out i (out.getD i 0 + r * s)) (i + 1) q = L at *
 generalize List.set out i (out.getD i 0 + r * s) = M at *
 generalize out.getD i 0 = y at *
 generalize val (A.take i) = V at *
 rw [Nat.pow_succ,e4] at e1
 rw [e3]
 rw [e4] at e2 ⊢
 generalize (p * s) ^ i = B at *
 rw [hv] at e2
 have e5 : (V + (q * p + r) * B) * s = V * s + q * (B * (p * s)) + r * s * B := by
  grind
 have e6 : (y + r * s) * B = y * B + r * s * B := Nat.add_mul ..
 omega
theorem shift_close {out : List Nat} {a by_ k : Nat} (hk : k = (digs a).length) (hv : val out = val ((digs a).take k) * 2 ^ by_) : val out = a * 2 ^ by_ := by
 rw [hv,val_take_all (by omega),val_digs]
theorem getD_digs (a i : Nat) : (digs a).getD i 0 = a / B32 ^ i % B32 := by
 induction i generalizing a with
 | zero =>
   by_cases h : a = 0
   · subst h; rw [digs_zero]; rfl
   · rw [digs_pos h]; simp
 | succ i ih =>
   by_cases h : a = 0
   · subst h; rw [digs_zero]; simp
   · rw [digs_pos h,List.getD_cons_succ,ih,Nat.div_div_eq_div_mul,Nat.pow_succ,Nat.mul_comm B32]
theorem two_digs (a i : Nat) : (digs a).getD i 0 + (digs a).getD (i + 1) 0 * 4294967296 = a / B32 ^ i % (B32 * B32) := by
 rw [getD_digs,getD_digs,Nat.pow_succ, <- Nat.div_div_eq_div_mul]
 generalize a / B32 ^ i = m
 rw [Nat.mod_mul]
 show m % B32 + m / B32 % B32 * B32 = _
 rw [Nat.mul_comm B32 (m / B32 % B32)]
theorem or_hi {x y : Nat} (hx : x < 4294967296) : x ||| y * 2 ^ 32 = x + y * 4294967296 := by
 rw [Nat.or_comm,or_shift y x hx]; have : (2 : Nat) ^ 32 = 4294967296 := rfl; omega
theorem down_step {out : List Nat} {a i by_ : Nat} (hi : i < out.length) (hby : by_ <= 32) (hv : val (out.take i) = a / 2 ^ by_ % B32 ^ i) :
 val ((out.set i (((digs a).getD i 0 ||| (digs a).getD (i + 1) 0 * 2 ^ 32) / 2 ^ by_ % 4294967296)).take (i + 1)) = a / 2 ^ by_ % B32 ^ (i + 1) := by
 rw [val_take_succ',take_set_self,getD_set_self hi,hv,show B32 ^ (i + 1) = B32 ^ i * B32 from rfl,Nat.mod_mul,or_hi (Fit.getD (digs_fit a) i),two_digs,Nat.mul_comm (B32 ^ i)]
 congr 2
 have e1 : a / 2 ^ by_ / B32 ^ i = a / B32 ^ i / 2 ^ by_ := by rw [Nat.div_div_eq_div_mul,Nat.div_div_eq_div_mul,Nat.mul_comm]
 rw [e1]
 generalize a / B32 ^ i = m
 have e2 : B32 * B32 = 2 ^ by_ * (B32 * 2 ^ (32 - by_)) := by
  have : B32 = 2 ^ by_ * 2 ^ (32 - by_) := by rw [<- Nat.pow_add,show by_ + (32 - by_) = 32 by omega]; rfl
  rw [Nat.mul_left_comm, <- this]
 rw [e2,Nat.mod_mul_right_div_self]
 show m / 2 ^ by_ % (B32 * 2 ^ (32 - by_)) % B32 = _
 rw [Nat.mod_mul_right_mod]
theorem down_bd {a i by_ : Nat} : ((digs a).getD i 0 ||| (digs a).getD (i + 1) 0 * 2 ^ 32) / 2 ^ by_ < 18446744073709551616 :=
 Nat.lt_of_le_of_lt (Nat.div_le_self ..) (Nat.or_lt_two_pow (n := 64) (Nat.lt_trans (Fit.getD (digs_fit a) i) (by decide)) (by have := Fit.getD (digs_fit a) (i + 1); have : (2:Nat)^32 = 4294967296 := rfl; omega))
theorem down_close {out : List Nat} {a by_ i : Nat} (hi : i = (digs a).length) (hl : out.length = (digs a).length) (hv : val (out.take i) = a / 2 ^ by_ % B32 ^ i) : val out = a / 2 ^ by_ := by
 rw [val_take_all (by omega)] at hv
 rw [hv,hi,Nat.mod_eq_of_lt]
 exact Nat.lt_of_le_of_lt (Nat.div_le_self ..) (lt_sz a)
theorem digs_shift {a k : Nat} (h : a ≠ 0) : digs (a * B32 ^ k) = List.replicate k 0 ++ digs a := by
 induction k with
 | zero => simp
 | succ k ih =>
   have hp : a * B32 ^ (k + 1) ≠ 0 := Nat.mul_ne_zero h (Nat.pos_iff_ne_zero.1 (Nat.pow_pos B32_pos))
   rw [digs_pos hp,Nat.pow_succ, <- Nat.mul_assoc,Nat.mul_mod_left,Nat.mul_div_cancel _ B32_pos,ih]; rfl
end Go.Ear
