/- K33: a part of the proof about training through the decoder: how the program's functions run, and what they compute, for every input. -/
import Derived.Test.YtdciabokggfpbaaGreatK32
import Derived.Test.YtdciabokggfpbaaGreatK30
set_option linter.all false
set_option maxRecDepth 20000
namespace Go.E3
open Go Go.Ear Go.Proofs
theorem shr_self {l : List Fr} (h : distF l = true) : shrQ l l = ratsL l := by
 have ⟨h1,h2⟩ := dist_iff.1 h
 have hn : l.any negF = false := any_of rfl fun i _ => decide_eq_false fun e => by have := h1 i; grind
 unfold shrQ normE normF
 rw [hn,h2]
 simp only [Bool.false_eq_true,if_false,show (1 : Rat) ≠ 0 by decide,or_self,if_true]
 unfold ratsL
 refine List.map_congr_left fun f _ => ?_
 rw [show (1 : Rat)⁻¹ = 1 by decide +kernel,Rat.mul_one]
section
variable {m : Md} (hv : validM m = true)
include hv
theorem can_eq {i : Nat} (hi : i < m.start.length) : shrQ m.start m.start = ratsL m.start /\ shrQ (lvM m i) (lvM m i) = ratsL (lvM m i) /\ shrQ (m.say.getD i []) (m.say.getD i []) = ratsL (m.say.getD i []) := by
 have hr := valid_row hv hi
 exact ⟨shr_self (validM_iff.1 hv).2.1,shr_self hr.2.2.2.1,shr_self hr.2.2.2.2⟩
theorem can_len {i : Nat} (hi : i < m.start.length) : (shrQ (lvM m i) (lvM m i)).length = m.start.length + 1 := by
 rw [(can_eq hv hi).2.1]
 unfold ratsL lvM
 rw [List.length_map,List.length_append,(valid_row hv hi).1]; rfl
theorem can_rat : (∀ i,((canM m).start.getD i fr0).rat = (m.start.getD i fr0).rat) /\ (∀ i j,i < m.start.length -> j < m.start.length -> (((canM m).move.getD i []).getD j fr0).rat = ((m.move.getD i []).getD j fr0).rat) /\ (∀ i,i < m.start.length -> ((canM m).fin.getD i fr0).rat = (m.fin.getD i fr0).rat) /\ ∀ i x,i < m.start.length -> (((canM m).say.getD i []).getD x fr0).rat = ((m.say.getD i []).getD x fr0).rat := by
 have hl := valid_len hv
 refine ⟨fun i => ?_,fun i j hi hj => ?_,fun i hi => ?_,fun i x hi => ?_⟩
 · rw [ch_st,(can_eq hv (show 0 < m.start.length by omega)).1,rats_at]
 · rw [ch_mv hi hj,(can_eq hv hi).2.1,rats_at,lvM_at,if_pos (by rw [(valid_row hv hi).1]; exact hj)]
 · rw [ch_fi hi,(can_eq hv hi).2.1,rats_at,lvM_at,(valid_row hv hi).1,if_neg (by omega),if_pos rfl]
 · rw [ch_sy hi,(can_eq hv hi).2.2,rats_at]
theorem can_VK : VK m.start.length (symb m) (shrQ m.start m.start) ((List.range m.start.length).map fun i => (shrQ (lvM m i) (lvM m i)).take m.start.length) ((List.range m.start.length).map fun i => (shrQ (lvM m i) (lvM m i)).getD m.start.length 0) ((List.range m.start.length).map fun i => shrQ (m.say.getD i []) (m.say.getD i [])) := by
 have hl := valid_len hv
 have h0 : 0 < m.start.length := by omega
 refine chM_VK (by omega) (valid_row hv h0).2.2.1 ⟨shrQ_len rfl rfl,shrQ_ds (validM_iff.1 hv).2.1⟩ (fun i hi => ⟨can_len hv hi,shrQ_ds (valid_row hv hi).2.2.2.1⟩) fun i hi => ⟨shrQ_len (valid_row hv hi).2.1 (valid_row hv hi).2.1,shrQ_ds (valid_row hv hi).2.2.2.2⟩
end
def dA (m : Md) : Nat := prN (fun i => (m.start.getD i fr0).rat.den) m.start.length
def dB (m : Md) : Nat := prN (fun i => prN (fun j => ((lvM m i).getD j fr0).rat.den) (m.start.length + 1)) m.start.length
def dC (m : Md) : Nat := prN (fun i => prN (fun x => ((m.say.getD i []).getD x fr0).rat.den) (symb m)) m.start.length
theorem Rec.can {m : Md} {S : Nat} [ft : FtM m] (hv : validM m = true) (hl : longM m = false) (hw : MdW 2 m) (hS : m.start.length <= S) : Rec (canM m) (dA m) (dB m) (dC m) 2 210 /\ sz (dA m) <= 1 + S * 2 /\ sz (dB m) <= 1 + S * (1 + (S + 1) * 2) /\ sz (dC m) <= 1 + S * (1 + 64 * 2) := by
 have hlen := valid_len hv
 have h0 : 0 < m.start.length := by omega
 have hy : symb m <= 64 /\ m.start.length <= 40 := by
  unfold longM at hl
  simp only [Bool.or_eq_false_iff,decide_eq_false_iff_not,Bool.and_eq_false_iff] at hl
  omega
 have vk := can_VK hv
 have hR := can_rat hv
 have hout := ch_out (n := m.start.length) (s := shrQ m.start m.start) (l := fun i => shrQ (lvM m i) (lvM m i)) (y := fun i => shrQ (m.say.getD i []) (m.say.getD i [])) fun i hi => can_len hv hi
 have hz : ∀ {q : Rat},bq q <= 2 -> sz q.den <= 2 := fun {q} h => Nat.le_trans (bq_den q) h
 have h02 : bq (0 : Rat) <= 2 := by rw [bq_zero]; decide
 have hlv : ∀ i j,bq ((lvM m i).getD j fr0).rat <= 2 := fun i j => by
  rw [lvM_at]
  split
  · exact hw.mv i j
  · split
    · exact hw.fi i
    · exact h02
 have d1 : ∀ {q : Rat},0 < q.den := fun {q} => Nat.pos_of_ne_zero q.den_nz
 have hWc : MdW 2 (canM m) := ⟨fun i => by rw [hR.1]; exact hw.st i,fun i j => by
  by_cases hi : i < m.start.length
  · by_cases hj : j < m.start.length
    · rw [hR.2.1 i j hi hj]; exact hw.mv i j
    · rw [hout.2 i j hi (by omega)]; exact h02
  · rw [(hout.1 i j (by omega)).1]; exact h02,fun i => by
  by_cases hi : i < m.start.length
  · rw [hR.2.2.1 i hi]; exact hw.fi i
  · rw [(hout.1 i 0 (by omega)).2.1]; exact h02,fun i x => by
  by_cases hi : i < m.start.length
  · rw [hR.2.2.2 i x hi]; exact hw.sy i x
  · rw [(hout.1 i x (by omega)).2.2]; exact h02⟩
 refine ⟨⟨vk.valid,vk.long hy.2 hy.1,⟨fun i => ?_,fun i j => ?_,fun i => ?_,fun i x => ?_⟩,⟨prN_pos _ fun i _ => d1,prN_pos _ fun i _ => prN_pos _ fun j _ => d1,prN_pos _ fun i _ => prN_pos _ fun j _ => d1⟩,hWc, ?_⟩, ?_, ?_, ?_⟩
 · rw [hR.1]
   by_cases hi : i < m.start.length
   · exact (Wh.den _).of_dvd (prN_dvd (fun i => (m.start.getD i fr0).rat.den) hi)
   · rw [List.getD_eq_getElem?_getD,List.getElem?_eq_none (by omega)]
     show Wh _ fr0.rat
     rw [show fr0.rat = 0 by decide +kernel]; exact Wh.zero _
 · by_cases hi : i < m.start.length
   · by_cases hj : j < m.start.length
     · rw [hR.2.1 i j hi hj]
       have e : ((m.move.getD i []).getD j fr0).rat = ((lvM m i).getD j fr0).rat := by rw [lvM_at,if_pos (by rw [(valid_row hv hi).1]; exact hj)]
       rw [e]
       exact (Wh.den _).of_dvd (Nat.dvd_trans (prN_dvd (fun j => ((lvM m i).getD j fr0).rat.den) (show j < m.start.length + 1 by omega)) (prN_dvd (fun i => prN (fun j => ((lvM m i).getD j fr0).rat.den) (m.start.length + 1)) hi))
     · rw [hout.2 i j hi (by omega)]; exact Wh.zero _
   · rw [(hout.1 i j (by omega)).1]; exact Wh.zero _
 · by_cases hi : i < m.start.length
   · rw [hR.2.2.1 i hi]
     have e : (m.fin.getD i fr0).rat = ((lvM m i).getD m.start.length fr0).rat := by rw [lvM_at,(valid_row hv hi).1,if_neg (by omega),if_pos rfl]
     rw [e]
     exact (Wh.den _).of_dvd (Nat.dvd_trans (prN_dvd (fun j => ((lvM m i).getD j fr0).rat.den) (show m.start.length < m.start.length + 1 by omega)) (prN_dvd (fun i => prN (fun j => ((lvM m i).getD j fr0).rat.den) (m.start.length + 1)) hi))
   · rw [(hout.1 i 0 (by omega)).2.1]; exact Wh.zero _
 · by_cases hi : i < m.start.length
   · rw [hR.2.2.2 i x hi]
     by_cases hx : x < symb m
     · exact (Wh.den _).of_dvd (Nat.dvd_trans (prN_dvd (fun x => ((m.say.getD i []).getD x fr0).rat.den) hx) (prN_dvd (fun i => prN (fun x => ((m.say.getD i []).getD x fr0).rat.den) (symb m)) hi))
     · rw [List.getD_eq_getElem?_getD,List.getElem?_eq_none (by rw [(valid_row hv hi).2.1]; omega)]
       show Wh _ fr0.rat
       rw [show fr0.rat = 0 by decide +kernel]; exact Wh.zero _
   · rw [(hout.1 i x (by omega)).2.2]; exact Wh.zero _
 · exact RwM.of vk.valid (vk.long hy.2 hy.1) (vk.B (K := 210) (by omega) (by omega) hWc (by decide))
 · exact Nat.le_trans (prN_sz m.start.length fun i _ => hz (hw.st i)) (Nat.add_le_add_left (Nat.mul_le_mul_right 2 hS) 1)
 · refine Nat.le_trans (prN_sz (K := 1 + (S + 1) * 2) m.start.length fun i _ => Nat.le_trans (prN_sz (m.start.length + 1) fun j _ => hz (hlv i j)) ?_) (Nat.add_le_add_left (Nat.mul_le_mul_right _ hS) 1)
   have := Nat.mul_le_mul_right 2 (show m.start.length + 1 <= S + 1 by omega); omega
 · refine Nat.le_trans (prN_sz (K := 1 + 64 * 2) m.start.length fun i _ => Nat.le_trans (prN_sz (symb m) fun j _ => hz (hw.sy i j)) ?_) (Nat.add_le_add_left (Nat.mul_le_mul_right _ hS) 1)
   omega
theorem RwM.mdb {R : Nat} {m : Md} (r : RwM R m) : MdB R m := by
 have hl := r.l
 refine ⟨r.s,fun l hlm => ?_,r.f,fun l hlm => ?_⟩
 · obtain ⟨i,hi,rfl⟩ := List.getElem_of_mem hlm
   have := (r.mv i (by omega)).2
   rw [List.getD_eq_getElem?_getD,List.getElem?_eq_getElem hi] at this
   exact this
 · obtain ⟨i,hi,rfl⟩ := List.getElem_of_mem hlm
   have := (r.y i (by omega)).2
   rw [List.getD_eq_getElem?_getD,List.getElem?_eq_getElem hi] at this
   exact this
theorem RwM.weak {K K' : Nat} {m : Md} (r : RwM K m) (h : K <= K') : RwM K' m := ⟨r.n,r.l,Nat.le_trans r.s h,Nat.le_trans r.f h,fun i hi => ⟨(r.mv i hi).1,Nat.le_trans (r.mv i hi).2 h⟩,fun i hi => ⟨(r.y i hi).1,Nat.le_trans (r.y i hi).2 h⟩⟩
theorem check_parts {m : Md} {data : List (List Int)} (hc : checkE [m] data = 0) : data.length <= 200 /\ data.any longO = false /\ data.any (heardM [m]) = false := by
 unfold checkE at hc
 split at hc
 · cases hc
 · rename_i c1
   split at hc
   · cases hc
   · split at hc
     · cases hc
     · rename_i c3
       simp only [Bool.or_eq_true,not_or,Bool.not_eq_true,decide_eq_true_eq,decide_eq_false_iff_not] at c1
       exact ⟨by omega,c1.2,by simpa using c3⟩
theorem check_next {m m' : Md} {data : List (List Int)} (hc : checkE [m] data = 0) (v : validM m' = true) (l : longM m' = false) (sy : symb m' = symb m) : checkE [m'] data = 0 := by
 obtain ⟨h1,h2,h3⟩ := check_parts hc
 refine check_good (by rw [l]; decide) (by omega) h2 v ?_
 rw [<- h3]
 congr 1
 funext o
 rw [heardM1,heardM1,sy]
theorem Rec.tok {m : Md} {a b c W R : Nat} (r : Rec m a b c W R) {data : List (List Int)} (hc : checkE [m] data = 0) (k : Nat) (hk : k < data.length) : TOk (Go.Ear.trK m data k) := checkE_TOk (checkE_one hc (getD_mem' data [] hk))
theorem ch_n {n : Nat} {s : List Rat} {l y : Nat -> List Rat} (h : s.length = n) : (chM n s l y).start.length = n := by
 show (List.map frK s).length = n
 rw [List.length_map,h]
end Go.E3
namespace Go.Ear
def prodTo (f : Nat -> Rat) : Nat -> Rat
 | 0 => 1
 | n + 1 => prodTo f n * f n
theorem prodTo_congr {f g : Nat -> Rat} : ∀ n,(∀ i,i < n -> f i = g i) -> prodTo f n = prodTo g n
 | 0,_ => rfl
 | n + 1,h => by rw [prodTo,prodTo,prodTo_congr n fun i hi => h i (by omega),h n (by omega)]
theorem prodTo_nn {f : Nat -> Rat} : ∀ n,(∀ i,i < n -> 0 <= f i) -> 0 <= prodTo f n
 | 0,_ => by show (0 : Rat) <= 1; decide +kernel
 | n + 1,h => Rat.mul_nonneg (prodTo_nn n fun i hi => h i (by omega)) (h n (by omega))
theorem prodTo_one {f : Nat -> Rat} : ∀ n,(∀ i,i < n -> f i = 1) -> prodTo f n = 1
 | 0,_ => rfl
 | n + 1,h => by rw [prodTo,prodTo_one n fun i hi => h i (by omega),h n (by omega),Rat.mul_one]
theorem prodTo_mul (f g : Nat -> Rat) : ∀ n,prodTo (fun i => f i * g i) n = prodTo f n * prodTo g n
 | 0 => by show (1 : Rat) = 1 * 1; rw [Rat.mul_one]
 | n + 1 => by rw [prodTo,prodTo,prodTo,prodTo_mul f g n]; grind
theorem mul_le_mul2 {a b c d : Rat} (ha : 0 <= a) (hc : 0 <= c) (h1 : a <= b) (h2 : c <= d) : a * c <= b * d :=
 Rat.le_trans (Rat.mul_le_mul_of_nonneg_right h1 hc) (Rat.mul_le_mul_of_nonneg_left h2 (Rat.le_trans ha h1))
theorem prodTo_le {f g : Nat -> Rat} : ∀ n,(∀ i,i < n -> 0 <= f i /\ f i <= g i) -> prodTo f n <= prodTo g n
 | 0,_ => Rat.le_refl
 | n + 1,h => mul_le_mul2 (prodTo_nn n fun i hi => (h i (by omega)).1) (h n (by omega)).1 (prodTo_le n fun i hi => h i (by omega)) (h n (by omega)).2
theorem prodTo_swap (f : Nat -> Nat -> Rat) (m : Nat) : ∀ n,prodTo (fun i => prodTo (f i) m) n = prodTo (fun j => prodTo (fun i => f i j) n) m
 | 0 => by rw [prodTo]; exact (prodTo_one m fun _ _ => rfl).symm
 | n + 1 => by rw [prodTo,prodTo_swap f m n, <- prodTo_mul]; rfl
theorem pw_mul (a b : Rat) : ∀ n : Nat,(a * b) ^ n = a ^ n * b ^ n
 | 0 => by rw [Rat.pow_zero,Rat.pow_zero,Rat.pow_zero,Rat.mul_one]
 | n + 1 => by rw [Rat.pow_succ,Rat.pow_succ,Rat.pow_succ,pw_mul a b n]; grind
theorem pw_add (a : Rat) (m : Nat) : ∀ n : Nat,a ^ (m + n) = a ^ m * a ^ n
 | 0 => by rw [Nat.add_zero,Rat.pow_zero,Rat.mul_one]
 | n + 1 => by rw [<- Nat.add_assoc,Rat.pow_succ,pw_add a m n,Rat.pow_succ,Rat.mul_assoc]
theorem on_pow : ∀ n : Nat,(1 : Rat) ^ n = 1
 | 0 => Rat.pow_zero _
 | n + 1 => by rw [Rat.pow_succ,on_pow n,Rat.mul_one]
theorem zr_pow {n : Nat} (h : n ≠ 0) : (0 : Rat) ^ n = 0 := by
 cases n with
 | zero => exact absurd rfl h
 | succ n => rw [Rat.pow_succ,Rat.mul_zero]
theorem pow_le_pow {a b : Rat} (ha : 0 <= a) (h : a <= b) : ∀ n : Nat,a ^ n <= b ^ n
 | 0 => by rw [Rat.pow_zero,Rat.pow_zero]; exact Rat.le_refl
 | n + 1 => by rw [Rat.pow_succ,Rat.pow_succ]; exact mul_le_mul2 (Rat.pow_nonneg ha) ha (pow_le_pow ha h n) h
def sumNat (w : Nat -> Nat) : Nat -> Nat
 | 0 => 0
 | n + 1 => sumNat w n + w n
theorem pow_sumNat (a : Rat) (w : Nat -> Nat) : ∀ n,prodTo (fun i => a ^ w i) n = a ^ sumNat w n
 | 0 => (Rat.pow_zero _).symm
 | n + 1 => by rw [prodTo,sumNat,pow_sumNat a w n,pw_add]
theorem bern {t : Rat} (ht : 0 <= 1 + t) : ∀ n : Nat,1 + (n : Rat) * t <= (1 + t) ^ n
 | 0 => by rw [Rat.pow_zero]; show 1 + (0 : Rat) * t <= 1; rw [Rat.zero_mul,Rat.add_zero]; exact Rat.le_refl
 | n + 1 => by
   have ih := Rat.mul_le_mul_of_nonneg_right (bern ht n) ht
   rw [Rat.pow_succ]
   refine Rat.le_trans ?_ ih
   have h1 : (0 : Rat) <= (n : Rat) := Rat.natCast_nonneg
   have h2 : (0 : Rat) <= t * t := by
    by_cases h : 0 <= t
    · exact Rat.mul_nonneg h h
    · have h3 : 0 <= -t := by grind
      have := Rat.mul_nonneg h3 h3
      grind
   have h4 := Rat.mul_nonneg h1 h2
   have h5 : ((n + 1 : Nat) : Rat) = (n : Rat) + 1 := Rat.natCast_add n 1
   rw [h5]
   grind
theorem amgm1 {a x : Rat} (ha : 0 < a) (hx : 0 <= x) (n : Nat) : a ^ n * x <= (((n : Rat) * a + x) / ((n : Rat) + 1)) ^ (n + 1) := by
 have hn : (0 : Rat) < (n : Rat) + 1 := by
  have : (0 : Rat) <= (n : Rat) := Rat.natCast_nonneg
  grind
 have hn0 : (n : Rat) + 1 ≠ 0 := by grind
 have ha0 : a ≠ 0 := by grind
 have hz : ∃ t : Rat,0 <= 1 + t /\ ((n : Rat) * a + x) / ((n : Rat) + 1) = a * (1 + t) /\ 1 + ((n : Rat) + 1) * t = x / a := by
  refine ⟨(x / a - 1) / ((n : Rat) + 1), ?_, ?_, ?_⟩
  · have h1 : 1 + (x / a - 1) / ((n : Rat) + 1) = ((n : Rat) + x / a) * ((n : Rat) + 1)⁻¹ := by
     rw [Rat.div_def]
     have := Rat.mul_inv_cancel _ hn0
     grind
    rw [h1]
    refine Rat.mul_nonneg ?_ (Rat.le_of_lt (Rat.inv_pos.2 hn))
    have h2 : 0 <= x / a := by rw [Rat.div_def]; exact Rat.mul_nonneg hx (Rat.le_of_lt (Rat.inv_pos.2 ha))
    have : (0 : Rat) <= (n : Rat) := Rat.natCast_nonneg
    grind
  · rw [Rat.div_def,Rat.div_def,Rat.div_def]
    have h1 := Rat.mul_inv_cancel _ hn0
    have h2 := Rat.mul_inv_cancel _ ha0
    grind
  · rw [Rat.div_def,Rat.div_def]
    have h1 := Rat.mul_inv_cancel _ hn0
    grind
 obtain ⟨t,h1,h2,h3⟩ := hz
 rw [h2,pw_mul]
 have hb := bern h1 (n + 1)
 have hc : ((n + 1 : Nat) : Rat) = (n : Rat) + 1 := Rat.natCast_add n 1
 rw [hc,h3] at hb
 have h4 := Rat.mul_le_mul_of_nonneg_left hb (Rat.le_of_lt (Rat.pow_pos (n := n + 1) ha))
 have e : a ^ n * x = a ^ (n + 1) * (x / a) := by
  rw [Rat.pow_succ,Rat.div_def]
  have h5 := Rat.mul_inv_cancel _ ha0
  grind
 rw [e]; exact h4
theorem mean_step {W : Nat} {S P x : Rat} (hS : 0 <= S) (hP : 0 <= P) (hx : 0 <= x) (h : (W : Rat) ^ W * P <= S ^ W) : ((W + 1 : Nat) : Rat) ^ (W + 1) * (P * x) <= (S + x) ^ (W + 1) := by
 by_cases hW : W = 0
 · subst hW
   rw [Rat.pow_zero,Rat.pow_zero,Rat.one_mul] at h
   rw [Nat.zero_add,Rat.pow_one,Rat.pow_one,show ((1 : Nat) : Rat) = 1 from rfl,Rat.one_mul]
   have := Rat.mul_le_mul_of_nonneg_right h hx
   grind
 · have hWp : (0 : Rat) < (W : Rat) := Rat.natCast_pos.2 (by omega)
   have hW0 : (W : Rat) ≠ 0 := by grind
   by_cases hS0 : S = 0
   · rw [hS0,zr_pow hW] at h
     have hp := Rat.pow_pos (n := W) hWp
     have hP0 : P = 0 := by
      by_cases e : P = 0
      · exact e
      · have h1 : 0 < P := by grind
        have := Rat.mul_pos hp h1
        grind
     rw [hP0,Rat.zero_mul,Rat.mul_zero]
     exact Rat.pow_nonneg (by grind)
   · have hSp : 0 < S := by grind
     have ha : 0 < S / (W : Rat) := by rw [Rat.div_def]; exact Rat.mul_pos hSp (Rat.inv_pos.2 hWp)
     have h1 := amgm1 ha hx W
     have e1 : (W : Rat) * (S / (W : Rat)) = S := by
      rw [Rat.div_def]; have := Rat.mul_inv_cancel _ hW0; grind
     rw [e1] at h1
     have h2 : P <= (S / (W : Rat)) ^ W := by
      have hp := Rat.pow_pos (n := W) hWp
      have e2 : (W : Rat) ^ W * (S / (W : Rat)) ^ W = S ^ W := by rw [<- pw_mul,e1]
      rw [<- e2] at h
      exact Rat.le_of_mul_le_mul_left h hp
     have h3 := Rat.le_trans (Rat.mul_le_mul_of_nonneg_right h2 hx) h1
     have hc : ((W + 1 : Nat) : Rat) = (W : Rat) + 1 := Rat.natCast_add W 1
     rw [hc]
     have hq : (0 : Rat) < (W : Rat) + 1 := by grind
     have hq0 : (W : Rat) + 1 ≠ 0 := by grind
     have h4 := Rat.mul_le_mul_of_nonneg_left h3 (Rat.le_of_lt (Rat.pow_pos (n := W + 1) hq))
     rw [<- pw_mul,show ((W : Rat) + 1) * ((S + x) / ((W : Rat) + 1)) = S + x by rw [Rat.div_def]; have := Rat.mul_inv_cancel _ hq0; grind] at h4
     exact h4
theorem mean_many {W : Nat} {S P x : Rat} (hS : 0 <= S) (hP : 0 <= P) (hx : 0 <= x) (h : (W : Rat) ^ W * P <= S ^ W) : ∀ w : Nat,((W + w : Nat) : Rat) ^ (W + w) * (P * x ^ w) <= (S + (w : Rat) * x) ^ (W + w)
 | 0 => by
   rw [Rat.pow_zero,Rat.mul_one,Nat.add_zero,show ((0 : Nat) : Rat) = 0 from rfl,Rat.zero_mul,Rat.add_zero]; exact h
 | w + 1 => by
   have ih := mean_many hS hP hx h w
   have h0 : (0 : Rat) <= (w : Rat) := Rat.natCast_nonneg
   have := mean_step (W := W + w) (S := S + (w : Rat) * x) (P := P * x ^ w) (x := x) (by have := Rat.mul_nonneg h0 hx; grind) (Rat.mul_nonneg hP (Rat.pow_nonneg hx)) hx ih
   rw [<- Nat.add_assoc,Rat.pow_succ x w, <- Rat.mul_assoc P]
   have e : S + ((w + 1 : Nat) : Rat) * x = S + (w : Rat) * x + x := by
    rw [show ((w + 1 : Nat) : Rat) = (w : Rat) + 1 from Rat.natCast_add w 1]; grind
   rw [e]
   exact this
theorem amgm {x : Nat -> Rat} {w : Nat -> Nat} : ∀ n,(∀ i,i < n -> 0 <= x i) -> ((sumNat w n : Nat) : Rat) ^ sumNat w n * prodTo (fun i => x i ^ w i) n <= (sumTo (fun i => ((w i : Nat) : Rat) * x i) n) ^ sumNat w n /\ 0 <= sumTo (fun i => ((w i : Nat) : Rat) * x i) n /\ 0 <= prodTo (fun i => x i ^ w i) n
 | 0,_ => ⟨by
  show ((0 : Nat) : Rat) ^ 0 * 1 <= _ ^ 0
  rw [Rat.pow_zero,Rat.pow_zero,Rat.mul_one]; exact Rat.le_refl,Rat.le_refl,by show (0 : Rat) <= 1; decide +kernel⟩
 | n + 1,h => by
   obtain ⟨h1,h2,h3⟩ := amgm (x := x) (w := w) n fun i hi => h i (by omega)
   have hx := h n (by omega)
   exact ⟨mean_many h2 h3 hx h1 (w n),by
    have := Rat.mul_nonneg (Rat.natCast_nonneg (a := w n)) hx
    show 0 <= _ + _
    grind,Rat.mul_nonneg h3 (Rat.pow_nonneg hx)⟩
theorem amgm_le {x : Nat -> Rat} {w : Nat -> Nat} {n : Nat} {B : Rat} (h : ∀ i,i < n -> 0 <= x i) (hB : sumTo (fun i => ((w i : Nat) : Rat) * x i) n <= B) : ((sumNat w n : Nat) : Rat) ^ sumNat w n * prodTo (fun i => x i ^ w i) n <= B ^ sumNat w n := by
 obtain ⟨h1,h2,_⟩ := amgm (x := x) (w := w) n h
 exact Rat.le_trans h1 (pow_le_pow h2 hB _)
end Go.Ear
namespace Go.Ear
theorem sumNat_le (w : Nat -> Nat) : ∀ {n i : Nat},i < n -> w i <= sumNat w n
 | n + 1,i,h => by
   rw [sumNat]
   by_cases e : i = n
   · subst e; omega
   · have := sumNat_le w (n := n) (i := i) (by omega); omega
theorem nc_inj {a b : Nat} (h : (a : Rat) = (b : Rat)) : a = b := by exact_mod_cast h
theorem mul_z {a b : Rat} (h : a * b = 0) (hb : b ≠ 0) : a = 0 := by
 have h1 : a * b * b⁻¹ = 0 * b⁻¹ := by rw [h]
 rw [Rat.mul_assoc,Rat.mul_inv_cancel _ hb,Rat.mul_one,Rat.zero_mul] at h1; exact h1
theorem jensen {y p : Nat -> Rat} {w : Nat -> Nat} {n W : Nat} {q Z : Rat} (hW : sumNat w n = W) (hy : ∀ i,i < n -> 0 <= y i) (hp : ∀ i,i < n -> 0 <= p i) (hq : W ≠ 0 -> 0 < q) (hw : ∀ i,i < n -> ((w i : Nat) : Rat) * q = (W : Rat) * p i) (hZ : sumTo y n <= Z) : prodTo (fun i => (y i / p i) ^ w i) n <= (Z / q) ^ W := by
 by_cases h0 : W = 0
 · have e : prodTo (fun i => (y i / p i) ^ w i) n = 1 := prodTo_one n fun i hi => by
    have := sumNat_le w hi
    rw [show w i = 0 by omega,Rat.pow_zero]
   rw [e,h0,Rat.pow_zero]; exact Rat.le_refl
 · have q0 := hq h0
   have qn : q ≠ 0 := by grind
   have hWp : (0 : Rat) < (W : Rat) := Rat.natCast_pos.2 (by omega)
   have qi := Rat.le_of_lt (Rat.inv_pos.2 q0)
   have h1 : sumTo (fun i => ((w i : Nat) : Rat) * (y i / p i)) n <= (W : Rat) * (Z / q) := by
    have e : sumTo (fun i => (W : Rat) * (y i / q)) n = (W : Rat) * (sumTo y n / q) := by rw [<- sumTo_divc]; exact sumTo_mul n
    have e2 : (W : Rat) * (sumTo y n / q) <= (W : Rat) * (Z / q) := by
     refine Rat.mul_le_mul_of_nonneg_left ?_ (Rat.le_of_lt hWp)
     rw [Rat.div_def,Rat.div_def]; exact Rat.mul_le_mul_of_nonneg_right hZ qi
    refine Rat.le_trans ?_ e2
    rw [<- e]
    refine sumTo_le n fun i hi => ?_
    have hwi := hw i hi
    have yq : 0 <= y i / q := by rw [Rat.div_def]; exact Rat.mul_nonneg (hy i hi) qi
    by_cases hp0 : p i = 0
    · rw [hp0,Rat.mul_zero] at hwi
      rw [mul_z hwi qn,Rat.zero_mul]; exact Rat.mul_nonneg (Rat.le_of_lt hWp) yq
    · have h2 : ((w i : Nat) : Rat) * (y i / p i) = (W : Rat) * (y i / q) := by
       have c1 := Rat.mul_inv_cancel _ hp0
       have c2 := Rat.mul_inv_cancel _ qn
       rw [Rat.div_def,Rat.div_def]
       have h3 : ((w i : Nat) : Rat) = (W : Rat) * p i * q⁻¹ := by rw [<- hwi,Rat.mul_assoc,c2,Rat.mul_one]
       rw [h3]; grind
      rw [h2]; exact Rat.le_refl
   have h2 := amgm_le (x := fun i => y i / p i) (w := w) (n := n) (fun i hi => by
    rw [Rat.div_def]; exact Rat.mul_nonneg (hy i hi) (inv_nn (hp i hi))) h1
   rw [hW,pw_mul] at h2
   exact Rat.le_of_mul_le_mul_left h2 (Rat.pow_pos hWp)
theorem one_le_pow {a : Rat} (h : 1 <= a) (n : Nat) : 1 <= a ^ n := by
 have := pow_le_pow (show (0 : Rat) <= 1 by decide +kernel) h n
 rw [on_pow] at this; exact this
theorem pow_one_eq {a : Rat} (h : 1 <= a) {n : Nat} (hn : n ≠ 0) (h1 : a ^ n <= 1) : a = 1 := by
 obtain ⟨k,rfl⟩ : ∃ k,n = k + 1 := ⟨n - 1,by omega⟩
 rw [Rat.pow_succ] at h1
 have h2 := Rat.mul_le_mul_of_nonneg_right (one_le_pow h k) (show 0 <= a by grind)
 rw [Rat.one_mul] at h2
 exact Rat.le_antisymm (Rat.le_trans h2 h1) h
theorem prodTo_ge {f : Nat -> Rat} : ∀ {n : Nat},(∀ i,i < n -> 1 <= f i) -> 1 <= prodTo f n /\ ∀ i,i < n -> f i <= prodTo f n
 | 0,_ => ⟨Rat.le_refl,fun i hi => by omega⟩
 | n + 1,h => by
   obtain ⟨h1,h2⟩ := prodTo_ge (n := n) fun i hi => h i (by omega)
   have h3 := h n (by omega)
   have h4 : f n <= prodTo f n * f n := by
    have := Rat.mul_le_mul_of_nonneg_right h1 (show 0 <= f n by grind)
    rw [Rat.one_mul] at this; exact this
   have h5 : prodTo f n <= prodTo f n * f n := by
    have := Rat.mul_le_mul_of_nonneg_left h3 (show 0 <= prodTo f n by grind)
    rw [Rat.mul_one] at this; exact this
   rw [prodTo]
   refine ⟨Rat.le_trans h1 h5,fun i hi => ?_⟩
   by_cases e : i = n
   · subst e; exact h4
   · exact Rat.le_trans (h2 i (by omega)) h5
theorem whN_zero (D : Nat) : whN D 0 = 0 := by unfold whN; rw [Rat.zero_mul]; rfl
theorem whN_nz {D : Nat} {q : Rat} (h : whN D q ≠ 0) : q ≠ 0 := fun e => h (by rw [e,whN_zero])
theorem whN_add {D : Nat} {p q : Rat} (h : Wh D p) (k : Wh D q) (hp : 0 <= p) (hq : 0 <= q) : whN D (p + q) = whN D p + whN D q := by
 apply nc_inj
 rw [<- whN_eq (h.add k) (Rat.add_nonneg hp hq),Rat.natCast_add, <- whN_eq h hp, <- whN_eq k hq,Rat.add_mul]
theorem whN_sum {D : Nat} {f : Nat -> Rat} : ∀ {n : Nat},(∀ i,i < n -> Wh D (f i)) -> (∀ i,i < n -> 0 <= f i) -> sumNat (fun i => whN D (f i)) n = whN D (sumTo f n)
 | 0,_,_ => (whN_zero D).symm
 | n + 1,h,k => by
   rw [sumNat,whN_sum (n := n) (fun i hi => h i (by omega)) (fun i hi => k i (by omega)),sumTo_succ,whN_add (Wh.sum n fun i hi => h i (by omega)) (h n (by omega)) (sumTo_nonneg n fun i hi => k i (by omega)) (k n (by omega))]
theorem gibbs {o v x : Nat -> Rat} {n N : Nat} {T : Rat} (hN : 0 < N) (ho : ∀ i,i < n -> 0 <= o i) (hx : ∀ i,i < n -> 0 <= x i) (hw : ∀ i,i < n -> Wh N (x i)) (hT : sumTo x n = T) (hs : sumTo o n = 1) (hz : ∀ i,i < n -> o i = 0 -> x i = 0) (hv : ∀ i,i < n -> v i = if T = 0 then o i else x i / T) : 1 <= prodTo (fun i => (v i / o i) ^ whN N (x i)) n /\ (prodTo (fun i => (v i / o i) ^ whN N (x i)) n <= 1 -> ∀ i,i < n -> v i = o i) := by
 by_cases hT0 : T = 0
 · have hx0 := sumTo_zero_all hx (hT.trans hT0)
   have e : prodTo (fun i => (v i / o i) ^ whN N (x i)) n = 1 := prodTo_one n fun i hi => by rw [hx0 i hi,whN_zero,Rat.pow_zero]
   rw [e]
   exact ⟨Rat.le_refl,fun _ i hi => by rw [hv i hi,if_pos hT0]⟩
 · have T0 : 0 <= T := by rw [<- hT]; exact sumTo_nonneg n hx
   have Tp : 0 < T := by grind
   have Ti := Rat.le_of_lt (Rat.inv_pos.2 Tp)
   have hv' : ∀ i,i < n -> v i = x i / T := fun i hi => by rw [hv i hi,if_neg hT0]
   have hvn : ∀ i,i < n -> 0 <= v i := fun i hi => by rw [hv' i hi,Rat.div_def]; exact Rat.mul_nonneg (hx i hi) Ti
   have hvs : sumTo v n = 1 := by
    rw [sumTo_congr n hv',sumTo_divc,hT,Rat.div_def,Rat.mul_inv_cancel _ hT0]
   have h2 : (2 : Rat)⁻¹ + (2 : Rat)⁻¹ = 1 := by decide +kernel
   have h20 : (0 : Rat) <= (2 : Rat)⁻¹ := by decide +kernel
   have hc : ∃ c : Rat,c + c = 1 /\ 0 <= c := ⟨_,h2,h20⟩
   obtain ⟨c,hc,hc0⟩ := hc
   have hA := jensen (y := fun i => c * (o i + v i)) (p := v) (w := fun i => whN N (x i)) (n := n) (W := whN N T) (q := 1) (Z := 1) (by rw [<- hT]; exact whN_sum hw hx) (fun i hi => Rat.mul_nonneg hc0 (Rat.add_nonneg (ho i hi) (hvn i hi))) hvn (fun _ => by decide +kernel) (fun i hi => by
    have e1 := whN_eq (hw i hi) (hx i hi)
    have e2 := whN_eq (D := N) (q := T) (by rw [<- hT]; exact Wh.sum n hw) T0
    rw [<- e1, <- e2,hv' i hi,Rat.mul_one,Rat.div_def]
    have := Rat.mul_inv_cancel _ hT0
    grind) (by
    have e : sumTo (fun i => c * (o i + v i)) n = 1 := by
     rw [sumTo_mul,sumTo_plus,hs,hvs]; grind
    rw [e]; exact Rat.le_refl)
   rw [show (1 : Rat) / 1 = 1 by decide +kernel,on_pow] at hA
   have hA0 : 0 <= prodTo (fun i => (c * (o i + v i) / v i) ^ whN N (x i)) n := prodTo_nn n fun i hi => Rat.pow_nonneg (by
    rw [Rat.div_def]; exact Rat.mul_nonneg (Rat.mul_nonneg hc0 (Rat.add_nonneg (ho i hi) (hvn i hi))) (inv_nn (hvn i hi)))
   have hG0 : 0 <= prodTo (fun i => (v i / o i) ^ whN N (x i)) n := prodTo_nn n fun i hi => Rat.pow_nonneg (by
    rw [Rat.div_def]; exact Rat.mul_nonneg (hvn i hi) (inv_nn (ho i hi)))
   have pos : ∀ i,i < n -> whN N (x i) ≠ 0 -> 0 < o i /\ 0 < v i /\ o i ≠ 0 /\ v i ≠ 0 := fun i hi hne => by
    have hxi := whN_nz hne
    have h1 : o i ≠ 0 := fun e => hxi (hz i hi e)
    have h3 : v i ≠ 0 := fun e => by
     rw [hv' i hi,Rat.div_def] at e
     exact hxi (mul_z e fun e2 => by
      have := Rat.mul_inv_cancel _ hT0
      rw [e2,Rat.mul_zero] at this
      exact absurd this (by decide +kernel))
    have := ho i hi; have := hvn i hi
    exact ⟨by grind,by grind,h1,h3⟩
   have hD : prodTo (fun i => (v i / o i) ^ whN N (x i)) n * (prodTo (fun i => (c * (o i + v i) / v i) ^ whN N (x i)) n * prodTo (fun i => (c * (o i + v i) / v i) ^ whN N (x i)) n) = prodTo (fun i => ((c * (o i + v i)) * (c * (o i + v i)) * ((o i)⁻¹ * (v i)⁻¹)) ^ whN N (x i)) n := by
    rw [<- prodTo_mul, <- prodTo_mul]
    refine prodTo_congr n fun i hi => ?_
    by_cases hne : whN N (x i) = 0
    · rw [hne,Rat.pow_zero,Rat.pow_zero,Rat.pow_zero]; decide +kernel
    · obtain ⟨_,_,h1,h3⟩ := pos i hi hne
      rw [<- pw_mul, <- pw_mul]
      congr 1
      rw [Rat.div_def,Rat.div_def]
      have := Rat.mul_inv_cancel _ h3
      grind
   have sq : ∀ i,i < n -> whN N (x i) ≠ 0 -> (c * (o i + v i)) * (c * (o i + v i)) * ((o i)⁻¹ * (v i)⁻¹) = 1 + (c * (o i - v i)) * (c * (o i - v i)) * ((o i)⁻¹ * (v i)⁻¹) := fun i hi hne => by
    obtain ⟨_,_,h1,h3⟩ := pos i hi hne
    have a1 := Rat.mul_inv_cancel _ h1
    have a2 := Rat.mul_inv_cancel _ h3
    have e4 : c * c * 4 = 1 := by
     have : c * c * 4 = (c + c) * (c + c) := by grind
     rw [this,hc]; decide +kernel
    have e5 : (c * (o i + v i)) * (c * (o i + v i)) - (c * (o i - v i)) * (c * (o i - v i)) = c * c * 4 * (o i * v i) := by grind
    rw [e4,Rat.one_mul] at e5
    have e6 : (c * (o i + v i)) * (c * (o i + v i)) = o i * v i + (c * (o i - v i)) * (c * (o i - v i)) := by grind
    rw [e6,Rat.add_mul]
    have e7 : o i * v i * ((o i)⁻¹ * (v i)⁻¹) = 1 := by
     have : o i * v i * ((o i)⁻¹ * (v i)⁻¹) = (o i * (o i)⁻¹) * (v i * (v i)⁻¹) := by grind
     rw [this,a1,a2]; decide +kernel
    rw [e7]
   have sn : ∀ q : Rat,0 <= q * q := fun q => by
    by_cases h : 0 <= q
    · exact Rat.mul_nonneg h h
    · have h3 : 0 <= -q := by grind
      have := Rat.mul_nonneg h3 h3
      grind
   have hD1 : ∀ i,i < n -> 1 <= ((c * (o i + v i)) * (c * (o i + v i)) * ((o i)⁻¹ * (v i)⁻¹)) ^ whN N (x i) := fun i hi => by
    by_cases hne : whN N (x i) = 0
    · rw [hne,Rat.pow_zero]; exact Rat.le_refl
    · obtain ⟨p1,p2,_,_⟩ := pos i hi hne
      refine one_le_pow ?_ _
      rw [sq i hi hne]
      have := Rat.mul_nonneg (sn (c * (o i - v i))) (Rat.mul_nonneg (Rat.le_of_lt (Rat.inv_pos.2 p1)) (Rat.le_of_lt (Rat.inv_pos.2 p2)))
      grind
   obtain ⟨g1,g2⟩ := prodTo_ge hD1
   rw [<- hD] at g1 g2
   generalize hGe : prodTo (fun i => (v i / o i) ^ whN N (x i)) n = G at *
   generalize hAe : prodTo (fun i => (c * (o i + v i) / v i) ^ whN N (x i)) n = A at *
   have hAA : A * A <= 1 := by
    have := Rat.mul_le_mul_of_nonneg_right hA hA0
    rw [Rat.one_mul] at this
    exact Rat.le_trans this hA
   have hGA : G * (A * A) <= G := by
    have := Rat.mul_le_mul_of_nonneg_left hAA hG0
    rw [Rat.mul_one] at this; exact this
   refine ⟨Rat.le_trans g1 hGA,fun hG1 => ?_⟩
   have same : ∀ i,i < n -> whN N (x i) ≠ 0 -> v i = o i := fun i hi hne => by
    obtain ⟨p1,p2,h1,h3⟩ := pos i hi hne
    have h4 := Rat.le_trans (g2 i hi) (Rat.le_trans hGA hG1)
    have h5 := Rat.mul_pos (Rat.inv_pos.2 p1) (Rat.inv_pos.2 p2)
    have e1 : 1 <= (c * (o i + v i)) * (c * (o i + v i)) * ((o i)⁻¹ * (v i)⁻¹) := by
     rw [sq i hi hne]
     have := Rat.mul_nonneg (sn (c * (o i - v i))) (Rat.le_of_lt h5)
     grind
    have e2 := pow_one_eq e1 hne h4
    rw [sq i hi hne] at e2
    have e3 : (c * (o i - v i)) * (c * (o i - v i)) * ((o i)⁻¹ * (v i)⁻¹) = 0 := by grind
    have e4 := mul_z e3 (by grind)
    have hcn : c ≠ 0 := fun e => by rw [e] at hc; exact absurd hc (by decide +kernel)
    by_cases hd : c * (o i - v i) = 0
    · rw [Rat.mul_comm] at hd
      have := mul_z hd hcn
      grind
    · have := mul_z e4 hd
      exact absurd this hd
   have hle : ∀ i,i < n -> 0 <= o i + -(v i) := fun i hi => by
    by_cases hne : whN N (x i) = 0
    · have hx0 : x i = 0 := by
       have e1 := whN_eq (hw i hi) (hx i hi)
       rw [hne] at e1
       have : x i * (N : Rat) = 0 := e1
       refine mul_z this fun e => ?_
       have : N = 0 := by exact_mod_cast e
       omega
      have : v i = 0 := by rw [hv' i hi,hx0,Rat.div_def,Rat.zero_mul]
      rw [this]; have := ho i hi; grind
    · rw [same i hi hne]; grind
   have hsum : sumTo (fun i => o i + -(v i)) n = 0 := by
    have e : sumTo (fun i => -(v i)) n = -1 := by
     have : sumTo (fun i => -(v i)) n = sumTo (fun i => (-1) * v i) n := sumTo_congr n fun i _ => by grind
     rw [this,sumTo_mul,hvs]; decide +kernel
    rw [sumTo_plus,hs,e]; decide +kernel
   intro i hi
   have := sumTo_zero_all hle hsum i hi
   grind
end Go.Ear
