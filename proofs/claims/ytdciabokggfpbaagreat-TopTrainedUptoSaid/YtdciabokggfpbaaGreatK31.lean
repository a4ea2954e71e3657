/- K31: a part of the proof about training through the decoder: how the program's functions run, and what they compute, for every input. -/
import Derived.Test.YtdciabokggfpbaaGreatK30
set_option linter.all false
namespace Go.Ear
def nzTo (f : Nat -> Rat) : Nat -> Nat
 | 0 => 0
 | n + 1 => nzTo f n + (if f n = 0 then 0 else 1)
theorem nzTo_le {f g : Nat -> Rat} : ∀ n,(∀ i,i < n -> g i = 0 -> f i = 0) -> nzTo f n <= nzTo g n
 | 0,_ => Nat.le_refl _
 | n + 1,h => by
   have ih := nzTo_le n fun i hi => h i (by omega)
   have h1 := h n (by omega)
   simp only [nzTo]
   by_cases e : g n = 0
   · rw [if_pos e,if_pos (h1 e)]; omega
   · rw [if_neg e]; split <;> omega
theorem nzTo_add {f g h : Nat -> Rat} : ∀ n,(∀ i,i < n -> f i = 0 -> g i = 0 -> h i = 0) -> nzTo h n <= nzTo f n + nzTo g n
 | 0,_ => Nat.le_refl _
 | n + 1,hh => by
   have ih := nzTo_add n fun i hi => hh i (by omega)
   have h1 := hh n (by omega)
   simp only [nzTo]
   by_cases e : f n = 0
   · rw [if_pos e]
     by_cases e2 : g n = 0
     · rw [if_pos e2,if_pos (h1 e e2)]; omega
     · rw [if_neg e2]; split <;> omega
   · rw [if_neg e]
     by_cases e2 : g n = 0
     · rw [if_pos e2]; split <;> omega
     · rw [if_neg e2]; split <;> omega
theorem nzTo_zero {f : Nat -> Rat} : ∀ n,(∀ i,i < n -> f i = 0) -> nzTo f n = 0
 | 0,_ => rfl
 | n + 1,h => by rw [nzTo,nzTo_zero n fun i hi => h i (by omega),if_pos (h n (by omega))]
theorem nzTo_one {f g : Nat -> Rat} (x : Nat) : ∀ n,(∀ i,i < n -> i ≠ x -> g i = f i) -> nzTo g n <= nzTo f n + (if x < n then 1 else 0)
 | 0,_ => Nat.zero_le _
 | n + 1,h => by
   have ih := nzTo_one x n fun i hi => h i (by omega)
   have h1 := h n (by omega)
   simp only [nzTo]
   by_cases e : n = x
   · have e1 : (if x < n + 1 then 1 else 0) = 1 := if_pos (by omega)
     have e2 : (if x < n then 1 else 0) = 0 := if_neg (by omega)
     rw [e1]
     rw [e2] at ih
     have e3 : (if g n = 0 then 0 else 1) <= 1 := by split <;> omega
     omega
   · rw [h1 e]
     have e3 : (if x < n + 1 then 1 else 0) = if x < n then 1 else 0 := by
      by_cases e2 : x < n
      · rw [if_pos e2,if_pos (by omega)]
      · rw [if_neg e2,if_neg (by omega)]
     rw [e3]; omega
def nz (l : List Rat) : Nat := nzTo (fun i => l.getD i 0) l.length
theorem wts_nz {K : Nat} : ∀ {l : List Rat},(∀ q ∈ l,bq q <= K) -> wts (l.map frK) <= 2 * l.length + (l.filter (fun q => decide (q ≠ 0))).length * K
 | [],_ => Nat.zero_le _
 | q :: l,h => by
   have ih := wts_nz (K := K) (l := l) fun x hx => h x (List.mem_cons_of_mem _ hx)
   have h1 := h q (List.mem_cons_self ..)
   rw [List.map_cons,wts_cons,bf_frK,List.length_cons,List.filter_cons]
   by_cases e : q = 0
   · rw [e,bq_zero,if_neg (by simp)]; omega
   · rw [if_pos (by simpa using e),List.length_cons,Nat.add_mul,Nat.one_mul]; omega
theorem nzTo_shift (f : Nat -> Rat) : ∀ n,nzTo f (n + 1) = (if f 0 = 0 then 0 else 1) + nzTo (fun i => f (i + 1)) n
 | 0 => by simp only [nzTo]; omega
 | n + 1 => by rw [nzTo,nzTo_shift f n,nzTo]; omega
theorem filter_nz : ∀ l : List Rat,(l.filter (fun q => decide (q ≠ 0))).length = nz l
 | [] => rfl
 | q :: l => by
   have ih := filter_nz l
   unfold nz
   rw [List.length_cons,nzTo_shift,List.filter_cons]
   have e2 : nzTo (fun i => (q :: l).getD (i + 1) 0) l.length = nz l := by unfold nz; rfl
   rw [e2, <- ih]
   by_cases e : q = 0
   · rw [if_neg (by simp [e]),if_pos (by simpa using e)]; omega
   · rw [if_pos (by simpa using e),if_neg (by simpa using e),List.length_cons]; omega
theorem wts_few {K N : Nat} {l : List Rat} (h : ∀ i,bq (l.getD i 0) <= K) (hn : nz l <= N) : wts (l.map frK) <= 2 * l.length + N * K := by
 have h1 := wts_nz (K := K) (l := l) fun q hq => by
  obtain ⟨i,hi,rfl⟩ := List.getElem_of_mem hq
  have := h i
  rw [List.getD_eq_getElem?_getD,List.getElem?_eq_getElem hi] at this
  exact this
 rw [filter_nz] at h1
 exact Nat.le_trans h1 (Nat.add_le_add_left (Nat.mul_le_mul_right K hn) _)
theorem nz_addR (a b : List Rat) (h : b.length = a.length) : nz (addR a b) <= nz a + nz b := by
 unfold nz
 rw [addR_len,h]
 refine nzTo_add _ fun i hi ha hb => ?_
 rw [addR,range_getD _ _ hi,ha,hb]; exact Rat.add_zero 0
theorem nz_rep (n : Nat) : nz (List.replicate n 0) = 0 := nzTo_zero _ fun i _ => by
 rw [List.getD_eq_getElem?_getD,List.getElem?_replicate]; split <;> rfl
theorem nz_sayRow (t : Tr) (i : Nat) : ∀ k,nz (sayRow t i k) <= k
 | 0 => by rw [sayRow,nz_rep]; exact Nat.le_refl _
 | k + 1 => by
   have ih := nz_sayRow t i k
   rw [sayRow]
   unfold nz at ih ⊢
   rw [List.length_set]
   have := nzTo_one (f := fun j => (sayRow t i k).getD j 0) (g := fun j => ((sayRow t i k).set (t.o.getD k 0).toNat ((sayRow t i k).getD (t.o.getD k 0).toNat 0 + pY t i k)).getD j 0) (t.o.getD k 0).toNat (sayRow t i k).length fun j hj hne => getD_set_ne' (fun e => hne e.symm)
   split at this <;> omega
theorem nz_all {m : Md} {data : List (List Int)} {F : Nat} (hF : ∀ o ∈ data,o.length <= F) (i : Nat) : ∀ k,k <= data.length -> nz ((allT m data k).say.getD i []) <= k * F
 | 0,_ => by
   rw [allT,ctZ]
   dsimp only
   rw [List.getD_eq_getElem?_getD,List.getElem?_replicate]
   split
   · show nz (List.replicate _ 0) <= _; rw [nz_rep]; omega
   · show nz [] <= _; exact Nat.zero_le _
 | k + 1,hk => by
   have ih := nz_all (m := m) hF i k (by omega)
   have hl := allT_len m data k
   by_cases h : lk (trK m data k) = 0
   · rw [allT_t h,Nat.succ_mul]; dsimp only; omega
   · rw [allT_f h,Nat.succ_mul]
     dsimp only
     by_cases hi : i < m.start.length
     · have hr := allT_row' m data k i hi
       rw [<- addM_at (by omega)]
       have hy : (cntT (trK m data k)).say.getD i [] = sayRow (trK m data k) i (trK m data k).o.length := by
        show (cntY (trK m data k)).getD i [] = _
        rw [cntY,range_getD _ _ (show i < (trK m data k).m.start.length from hi)]
       have h1 := nz_addR ((allT m data k).say.getD i []) ((cntT (trK m data k)).say.getD i []) (by rw [hy,sayRow_len,hr.2]; rfl)
       have h2 := nz_sayRow (trK m data k) i (trK m data k).o.length
       have h3 : (trK m data k).o.length <= F := hF _ (getD_mem' data [] (show k < data.length by omega))
       rw [hy] at h1 ⊢
       omega
     · rw [List.getD_eq_getElem?_getD,List.getElem?_eq_none (by rw [addM_len]; omega)]
       exact Nat.zero_le _
end Go.Ear
set_option maxRecDepth 20000
namespace Go.E3
open Go Go.Ear Go.Proofs
theorem negK {x : List Rat} (hx : ∀ i,0 <= x.getD i 0) : (x.map frK).any negF = false := any_of (List.length_map _) fun i _ => decide_eq_false fun h => by
 rw [getD_K,frK_rat] at h
 have := hx i; grind
theorem shr_K {x : List Rat} {b : List Fr} (hx : ∀ i,0 <= x.getD i 0) : shrQ (x.map frK) b = if sumR x = 0 then ratsL b else x.map fun q => q / sumR x := by
 unfold shrQ normE normF
 rw [negK hx,sumF_K]
 by_cases h : sumR x = 0
 · rw [if_pos h]; simp [h]
 · rw [if_neg h]
   simp only [h,Bool.false_eq_true,if_false,or_self,if_true,List.map_map]
   refine List.map_congr_left fun q _ => ?_
   show (frK q).rat * _ = _
   rw [frK_rat,Rat.div_def]
theorem rats_at (b : List Fr) (i : Nat) : (ratsL b).getD i 0 = (b.getD i fr0).rat := by
 unfold ratsL
 rw [List.getD_eq_getElem?_getD,List.getElem?_map,List.getD_eq_getElem?_getD]
 cases b[i]? with
 | none => show (0 : Rat) = fr0.rat; decide +kernel
 | some x => rfl
theorem div_at (x : List Rat) (s : Rat) (i : Nat) : (x.map fun q => q / s).getD i 0 = x.getD i 0 / s := by
 rw [List.getD_eq_getElem?_getD,List.getElem?_map,List.getD_eq_getElem?_getD]
 cases x[i]? with
 | none => show (0 : Rat) = 0 / s; rw [zero_div_rat]
 | some x => rfl
theorem shr_at {x : List Rat} {b : List Fr} (hx : ∀ i,0 <= x.getD i 0) (i : Nat) : (shrQ (x.map frK) b).getD i 0 = if sumR x = 0 then (b.getD i fr0).rat else x.getD i 0 / sumR x := by
 rw [shr_K hx]
 split
 · exact rats_at b i
 · exact div_at x _ i
theorem sumR_nn {x : List Rat} (hx : ∀ i,0 <= x.getD i 0) : 0 <= sumR x := sumTo_nonneg _ fun i _ => hx i
theorem le_sumR {x : List Rat} (hx : ∀ i,0 <= x.getD i 0) (i : Nat) : x.getD i 0 <= sumR x := by
 by_cases hi : i < x.length
 · exact sumTo_one (fun j _ => hx j) hi
 · rw [List.getD_eq_getElem?_getD,List.getElem?_eq_none (by omega)]; exact sumR_nn hx
def rD (L d : Nat) (x : List Rat) : Nat := if sumR x = 0 then d else whN L (sumR x)
section
variable {L d : Nat} {x : List Rat} {b : List Fr} (hx : ∀ i,0 <= x.getD i 0) (hw : ∀ i,Wh L (x.getD i 0)) (hb : ∀ i,Wh d (b.getD i fr0).rat)
include hx hw
theorem rD_wh (i : Nat) (hb : ∀ i,Wh d (b.getD i fr0).rat) : Wh (rD L d x) ((shrQ (x.map frK) b).getD i 0) := by
 rw [shr_at hx]
 unfold rD
 by_cases h : sumR x = 0
 · rw [if_pos h,if_pos h]; exact hb i
 · rw [if_neg h,if_neg h]
   have := sumR_nn hx
   exact (hw i).part (Wh.sum _ fun j _ => hw j) (by grind)
theorem rD_pos (hL : 0 < L) (hd : 0 < d) : 0 < rD L d x := by
 unfold rD
 split
 · exact hd
 · have := sumR_nn hx
   exact whN_pos (Wh.sum _ fun j _ => hw j) (by grind) hL
theorem rD_sz {B : Nat} (hB : sumR x <= (B : Rat)) : sz (rD L d x) <= max (sz d) (sz B + sz L) := by
 unfold rD
 split
 · omega
 · have h1 := whN_le (B := B) (Wh.sum _ fun j _ => hw j) (sumR_nn hx) hB
   have h2 := sz_mono h1
   have h3 := sz_mul B L
   have h4 : sz (whN L (sumR x)) <= sz (B * L) := h2
   omega
end
theorem shr_01 {x : List Rat} {b : List Fr} (hx : ∀ i,0 <= x.getD i 0) (hb : ∀ i,0 <= (b.getD i fr0).rat /\ (b.getD i fr0).rat <= 1) (i : Nat) : 0 <= (shrQ (x.map frK) b).getD i 0 /\ (shrQ (x.map frK) b).getD i 0 <= 1 := by
 rw [shr_at hx]
 split
 · exact hb i
 · have h0 := sumR_nn hx
   have hp : 0 < sumR x := by grind
   have h1 := le_sumR hx i
   refine ⟨by rw [Rat.div_def]; exact Rat.mul_nonneg (hx i) (Rat.le_of_lt (Rat.inv_pos.2 hp)), ?_⟩
   have := Rat.mul_le_mul_of_nonneg_right h1 (Rat.le_of_lt (Rat.inv_pos.2 hp))
   rw [Rat.mul_inv_cancel _ (by grind)] at this
   rw [Rat.div_def]; exact this
theorem shr_nz {x : List Rat} {b : List Fr} (hx : ∀ i,0 <= x.getD i 0) (h : sumR x ≠ 0) : nz (shrQ (x.map frK) b) <= nz x := by
 rw [shr_K hx,if_neg h]
 unfold nz
 rw [List.length_map]
 exact nzTo_le _ fun i _ e => by
  rw [div_at]
  have e : x.getD i 0 = 0 := e
  rw [e,zero_div_rat]
def prN (f : Nat -> Nat) : Nat -> Nat
 | 0 => 1
 | n + 1 => prN f n * f n
theorem prN_dvd (f : Nat -> Nat) : ∀ {n i : Nat},i < n -> f i ∣ prN f n
 | n + 1,i,h => by
   rw [prN]
   by_cases e : i = n
   · subst e; exact Nat.dvd_mul_left _ _
   · exact Nat.dvd_trans (prN_dvd f (by omega)) (Nat.dvd_mul_right _ _)
theorem prN_pos {f : Nat -> Nat} : ∀ n,(∀ i,i < n -> 0 < f i) -> 0 < prN f n
 | 0,_ => by rw [prN]; decide
 | n + 1,h => Nat.mul_pos (prN_pos n fun i hi => h i (by omega)) (h n (by omega))
theorem prN_sz {f : Nat -> Nat} {K : Nat} : ∀ n,(∀ i,i < n -> sz (f i) <= K) -> sz (prN f n) <= 1 + n * K
 | 0,_ => by rw [prN,sz_one]; omega
 | n + 1,h => by
   have ih := prN_sz n fun i hi => h i (by omega)
   have h1 := h n (by omega)
   have h2 := sz_mul (prN f n) (f n)
   rw [prN,Nat.add_mul,Nat.one_mul]; omega
theorem pM_nn {t : Tr} (nn : Nn t.m) (i k j : Nat) : 0 <= pM t i k j := by
 unfold pM wM; rw [Rat.div_def]
 exact Rat.mul_nonneg (Rat.mul_nonneg (Rat.mul_nonneg (Rat.mul_nonneg (fwd_nn nn _ _) (nn.mv i j)) (nn.sy j _)) (bwd_nn nn _ _)) (inv_nn (lk_nn nn))
theorem rep_nn (n i : Nat) : 0 <= (List.replicate n (0 : Rat)).getD i 0 := by
 rw [List.getD_eq_getElem?_getD,List.getElem?_replicate]; split <;> exact Rat.le_refl
theorem sayRow_nn {t : Tr} (nn : Nn t.m) (i x : Nat) : ∀ k,0 <= (sayRow t i k).getD x 0
 | 0 => rep_nn _ x
 | k + 1 => by
   have ih := sayRow_nn nn i x k
   rw [sayRow]
   by_cases e : (t.o.getD k 0).toNat = x
   · subst e
     by_cases hx : (t.o.getD k 0).toNat < (sayRow t i k).length
     · rw [getD_set_is hx]; exact Rat.add_nonneg ih (pY_nn nn i k)
     · rw [List.getD_eq_getElem?_getD,List.getElem?_eq_none (by rw [List.length_set]; omega)]; exact Rat.le_refl
   · rw [getD_set_ne' e]; exact ih
theorem mvRow_nn {t : Tr} (nn : Nn t.m) (i j : Nat) : ∀ k,0 <= (mvRow t i k).getD j 0
 | 0 => rep_nn _ j
 | k + 1 => by
   by_cases hj : j < t.m.start.length
   · rw [<- mvRow_at hj]; exact Rat.add_nonneg (mvRow_nn nn i j k) (pM_nn nn i k j)
   · rw [List.getD_eq_getElem?_getD,List.getElem?_eq_none (by rw [mvRow_len]; omega)]; exact Rat.le_refl
theorem cnt_nn {t : Tr} (nn : Nn t.m) (i j : Nat) : 0 <= (cntT t).start.getD i 0 /\ 0 <= (cntT t).fin.getD i 0 /\ 0 <= ((cntT t).move.getD i []).getD j 0 /\ 0 <= ((cntT t).say.getD i []).getD j 0 := by
 by_cases hi : i < t.m.start.length
 · refine ⟨?_, ?_, ?_, ?_⟩
   · show 0 <= (cntS t).getD i 0; rw [cntS,range_getD _ _ hi]; exact pY_nn nn i 0
   · show 0 <= (cntE t).getD i 0; rw [cntE,range_getD _ _ hi,pE_pY hi]; exact pY_nn nn i _
   · show 0 <= ((cntM t).getD i []).getD j 0; rw [cntM,range_getD _ _ hi]; exact mvRow_nn nn i j _
   · show 0 <= ((cntY t).getD i []).getD j 0; rw [cntY,range_getD _ _ hi]; exact sayRow_nn nn i j _
 · have z : ∀ {l : List Rat},l.length = t.m.start.length -> l.getD i 0 = 0 := fun {l} hl => by rw [List.getD_eq_getElem?_getD,List.getElem?_eq_none (by omega)]; rfl
   have z2 : ∀ {l : List (List Rat)},l.length = t.m.start.length -> (l.getD i []).getD j 0 = 0 := fun {l} hl => by rw [List.getD_eq_getElem?_getD (l := l),List.getElem?_eq_none (by omega)]; rfl
   refine ⟨?_, ?_, ?_, ?_⟩
   · show 0 <= (cntS t).getD i 0; rw [z (cntS_len t)]; exact Rat.le_refl
   · show 0 <= (cntE t).getD i 0; rw [z (cntE_len t)]; exact Rat.le_refl
   · show 0 <= ((cntM t).getD i []).getD j 0; rw [z2 (cntM_len t)]; exact Rat.le_refl
   · show 0 <= ((cntY t).getD i []).getD j 0; rw [z2 (cntY_len t)]; exact Rat.le_refl
theorem addR_nn {x y : List Rat} (hx : ∀ i,0 <= x.getD i 0) (hy : ∀ i,0 <= y.getD i 0) (i : Nat) : 0 <= (addR x y).getD i 0 := by
 by_cases hi : i < x.length
 · rw [addR,range_getD _ _ hi]; exact Rat.add_nonneg (hx i) (hy i)
 · rw [List.getD_eq_getElem?_getD,List.getElem?_eq_none (by rw [addR_len]; omega)]; exact Rat.le_refl
theorem addM_nn {x y : List (List Rat)} (hx : ∀ i j,0 <= (x.getD i []).getD j 0) (hy : ∀ i j,0 <= (y.getD i []).getD j 0) (i j : Nat) : 0 <= ((addM x y).getD i []).getD j 0 := by
 by_cases hi : i < x.length
 · rw [<- addM_at hi]; exact addR_nn (hx i) (hy i) j
 · rw [List.getD_eq_getElem?_getD (l := addM x y),List.getElem?_eq_none (by rw [addM_len]; omega)]; exact Rat.le_refl
theorem all_nn {m : Md} {data : List (List Int)} (nn : Nn m) : ∀ k i j,0 <= (allT m data k).start.getD i 0 /\ 0 <= (allT m data k).fin.getD i 0 /\ 0 <= ((allT m data k).move.getD i []).getD j 0 /\ 0 <= ((allT m data k).say.getD i []).getD j 0
 | 0,i,j => by
   have z2 : ∀ n k i j,0 <= ((List.replicate n (List.replicate k (0 : Rat))).getD i []).getD j 0 := fun n k i j => by
    rw [List.getD_eq_getElem?_getD (l := List.replicate n (List.replicate k (0 : Rat))),List.getElem?_replicate]
    split
    · exact rep_nn k j
    · exact Rat.le_refl
   exact ⟨rep_nn _ i,rep_nn _ i,z2 _ _ i j,z2 _ _ i j⟩
 | k + 1,i,j => by
   have ih := all_nn (m := m) (data := data) nn k
   by_cases h : lk (Go.Ear.trK m data k) = 0
   · rw [allT_t h]; exact ih i j
   · have hc := cnt_nn (t := Go.Ear.trK m data k) nn
     rw [allT_f h]
     exact ⟨addR_nn (fun i => (ih i 0).1) (fun i => (hc i 0).1) i,addR_nn (fun i => (ih i 0).2.1) (fun i => (hc i 0).2.1) i,addM_nn (fun i j => (ih i j).2.2.1) (fun i j => (hc i j).2.2.1) i j,addM_nn (fun i j => (ih i j).2.2.2) (fun i j => (hc i j).2.2.2) i j⟩
theorem sumR_snoc (l : List Rat) (q : Rat) : sumR (l ++ [q]) = sumR l + q := by
 unfold sumR
 rw [List.length_append,List.length_singleton,sumTo_succ]
 congr 1
 · exact sumTo_congr _ fun i hi => by rw [List.getD_eq_getElem?_getD,List.getElem?_append_left hi, <- List.getD_eq_getElem?_getD]
 · rw [List.getD_eq_getElem?_getD,List.getElem?_append_right (Nat.le_refl _),Nat.sub_self]; rfl
theorem snoc_at (l : List Rat) (q : Rat) (j : Nat) : (l ++ [q]).getD j 0 = if j < l.length then l.getD j 0 else if j = l.length then q else 0 := by
 by_cases h : j < l.length
 · rw [if_pos h,List.getD_eq_getElem?_getD,List.getElem?_append_left h, <- List.getD_eq_getElem?_getD]
 · rw [if_neg h,List.getD_eq_getElem?_getD,List.getElem?_append_right (by omega)]
   by_cases e : j = l.length
   · rw [if_pos e,e,Nat.sub_self]; rfl
   · rw [if_neg e,List.getElem?_eq_none (by simp; omega)]; rfl
theorem snocF_at (l : List Fr) (q : Fr) (j : Nat) : (l ++ [q]).getD j fr0 = if j < l.length then l.getD j fr0 else if j = l.length then q else fr0 := by
 by_cases h : j < l.length
 · rw [if_pos h,List.getD_eq_getElem?_getD,List.getElem?_append_left h, <- List.getD_eq_getElem?_getD]
 · rw [if_neg h,List.getD_eq_getElem?_getD,List.getElem?_append_right (by omega)]
   by_cases e : j = l.length
   · rw [if_pos e,e,Nat.sub_self]; rfl
   · rw [if_neg e,List.getElem?_eq_none (by simp; omega)]; rfl
def lvT (C : Go.Ear.Ct) (i : Nat) : List Rat := C.move.getD i [] ++ [C.fin.getD i 0]
theorem lvC_K (C : Go.Ear.Ct) (i : Nat) : lvC (cntK C) i = (lvT C i).map frK := by
 show (C.move.map (·.map frK)).getD i [] ++ [(C.fin.map frK).getD i fr0] = _
 rw [getD_KR,getD_K]
 unfold lvT; rw [List.map_append]; rfl
theorem sy_K (C : Go.Ear.Ct) (i : Nat) : (cntK C).say.getD i [] = (C.say.getD i []).map frK := getD_KR _ _
section
variable {C : Go.Ear.Ct} (hn : ∀ i j,0 <= C.start.getD i 0 /\ 0 <= C.fin.getD i 0 /\ 0 <= (C.move.getD i []).getD j 0 /\ 0 <= (C.say.getD i []).getD j 0)
include hn
theorem lvT_nn (i j : Nat) : 0 <= (lvT C i).getD j 0 := by
 unfold lvT; rw [snoc_at]
 split
 · exact (hn i j).2.2.1
 · split
   · exact (hn i 0).2.1
   · exact Rat.le_refl
end
theorem lvT_wh {C : Go.Ear.Ct} {L : Nat} (hw : ∀ i j,Wh L (C.start.getD i 0) /\ Wh L (C.fin.getD i 0) /\ Wh L ((C.move.getD i []).getD j 0) /\ Wh L ((C.say.getD i []).getD j 0)) (i j : Nat) : Wh L ((lvT C i).getD j 0) := by
 unfold lvT; rw [snoc_at]
 split
 · exact (hw i j).2.2.1
 · split
   · exact (hw i 0).2.1
   · exact Wh.zero _
theorem lvM_at (m : Md) (i j : Nat) : ((lvM m i).getD j fr0).rat = if j < (m.move.getD i []).length then ((m.move.getD i []).getD j fr0).rat else if j = (m.move.getD i []).length then (m.fin.getD i fr0).rat else 0 := by
 unfold lvM; rw [snocF_at]
 split
 · rfl
 · split
   · rfl
   · show fr0.rat = 0; decide +kernel
section
variable {n : Nat} {s : List Rat} {l y : Nat -> List Rat}
theorem ch_st (i : Nat) : ((chM n s l y).start.getD i fr0).rat = s.getD i 0 := stK
theorem ch_mv {i j : Nat} (hi : i < n) (hj : j < n) : (((chM n s l y).move.getD i []).getD j fr0).rat = (l i).getD j 0 := by
 have : (((chM n s l y).move.getD i []).getD j fr0).rat = (((List.range n).map fun i => (l i).take n).getD i []).getD j 0 := mvK
 rw [this,range_getD _ _ hi,List.getD_eq_getElem?_getD,List.getElem?_take,if_pos hj, <- List.getD_eq_getElem?_getD]
theorem ch_fi {i : Nat} (hi : i < n) : ((chM n s l y).fin.getD i fr0).rat = (l i).getD n 0 := by
 have : ((chM n s l y).fin.getD i fr0).rat = ((List.range n).map fun i => (l i).getD n 0).getD i 0 := fiK
 rw [this,range_getD _ _ hi]
theorem ch_sy {i x : Nat} (hi : i < n) : (((chM n s l y).say.getD i []).getD x fr0).rat = (y i).getD x 0 := by
 have : (((chM n s l y).say.getD i []).getD x fr0).rat = (((List.range n).map y).getD i []).getD x 0 := syK
 rw [this,range_getD _ _ hi]
theorem ch_out (hl : ∀ i,i < n -> (l i).length = n + 1) : (∀ i j,n <= i -> (((chM n s l y).move.getD i []).getD j fr0).rat = 0 /\ ((chM n s l y).fin.getD i fr0).rat = 0 /\ (((chM n s l y).say.getD i []).getD j fr0).rat = 0) /\ ∀ i j,i < n -> n <= j -> (((chM n s l y).move.getD i []).getD j fr0).rat = 0 := by
 have e1 : ∀ f : Nat -> List Rat, ∀ i,n <= i -> ((List.range n).map f).getD i [] = [] := fun f i hi => by rw [List.getD_eq_getElem?_getD,List.getElem?_eq_none (by simp; omega)]; rfl
 refine ⟨fun i j hi => ⟨?_, ?_, ?_⟩,fun i j hi hj => ?_⟩
 · have : (((chM n s l y).move.getD i []).getD j fr0).rat = (((List.range n).map fun i => (l i).take n).getD i []).getD j 0 := mvK
   rw [this,e1 _ i hi]; rfl
 · have : ((chM n s l y).fin.getD i fr0).rat = ((List.range n).map fun i => (l i).getD n 0).getD i 0 := fiK
   rw [this,List.getD_eq_getElem?_getD,List.getElem?_eq_none (by simp; omega)]; rfl
 · have : (((chM n s l y).say.getD i []).getD j fr0).rat = (((List.range n).map y).getD i []).getD j 0 := syK
   rw [this,e1 _ i hi]; rfl
 · have : (((chM n s l y).move.getD i []).getD j fr0).rat = (((List.range n).map fun i => (l i).take n).getD i []).getD j 0 := mvK
   rw [this,range_getD _ _ hi,List.getD_eq_getElem?_getD,List.getElem?_eq_none (by rw [List.length_take]; have := hl i hi; omega)]; rfl
end
theorem _root_.Go.Ear.Wh.bqB {D B : Nat} {q : Rat} (h : Wh D q) (hD : 0 < D) (hB : 0 < B) (h0 : 0 <= q) (h1 : q <= (B : Rat)) : bq q <= sz D + sz B := by
 have hBp : (0 : Rat) < (B : Rat) := Rat.natCast_pos.2 hB
 have hB0 : (B : Rat) ≠ 0 := by grind
 have hq : q = q / (B : Rat) * ((B : Int) : Rat) := by
  rw [Rat.intCast_natCast,Rat.div_def,Rat.mul_assoc,Rat.inv_mul_cancel _ hB0,Rat.mul_one]
 have hw : Wh (D * B) (q / (B : Rat)) := by
  obtain ⟨a,ha⟩ := h
  refine ⟨a, ?_⟩
  rw [Rat.natCast_mul,Rat.mul_comm (D : Rat),mul_rot hB0,ha]
 obtain ⟨a,ha⟩ := h
 have hDp : (0 : Rat) < (D : Rat) := Rat.natCast_pos.2 hD
 have hD0 : (D : Rat) ≠ 0 := by grind
 have e : q = (a : Rat) / (D : Rat) := by rw [<- ha,Rat.div_def,Rat.mul_assoc,Rat.mul_inv_cancel _ hD0,Rat.mul_one]
 have e2 : q = mkRat a D := by rw [Rat.mkRat_eq_div]; exact e
 have hd : q.den ∣ D := by
  rw [e2,Rat.den_mkRat,if_neg (by omega)]
  exact Nat.div_dvd_of_dvd (Nat.gcd_dvd_left _ _)
 have hdl : q.den <= D := Nat.le_of_dvd hD hd
 have hn : q.num.natAbs <= B * q.den := by
  have hnn : 0 <= q.num := Rat.num_nonneg.2 h0
  have hle : q.num <= ((B * q.den : Nat) : Int) := by
   have h2 := num_eq q
   have h3 : (q.num : Rat) <= (((B * q.den : Nat) : Int) : Rat) := by
    rw [<- h2,Rat.intCast_natCast,Rat.natCast_mul]
    exact Rat.mul_le_mul_of_nonneg_right h1 Rat.natCast_nonneg
   exact_mod_cast h3
  omega
 have h5 := sz_mono hn
 have h6 := sz_mul B q.den
 have h7 := sz_mono hdl
 unfold Go.Ear.bq
 exact Nat.max_le.2 ⟨by omega,by omega⟩
section
variable {t : Tr} {a b c F E : Nat} (w : WhM t.m a b c) (hv : validM t.m = true) (pos : 0 < a /\ 0 < b /\ 0 < c) (hF : t.o.length <= F) (hE : sz a + F * (sz b + sz c) + 2 <= E)
include w hv pos hF hE
theorem wh_fw (k i : Nat) (hk : k < t.o.length) : bq ((fwd t k).getD i 0) <= E := by
 have h := (w.fwd k i).bq (Nat.mul_pos pos.1 (Nat.mul_pos (Nat.pow_pos pos.2.1) (Nat.pow_pos pos.2.2))) (fwd_nn (Nn.of hv) k i) (fwd_le1 hv k i)
 have h1 := sz_mul a (b ^ k * c ^ (k + 1))
 have h2 := sz_mul (b ^ k) (c ^ (k + 1))
 have h3 := sz_pow b k
 have h4 := sz_pow c (k + 1)
 have h5 := Nat.mul_le_mul_right (sz b) (show k <= F by omega)
 have h6 := Nat.mul_le_mul_right (sz c) (show k + 1 <= F by omega)
 rw [Nat.mul_add] at hE
 omega
theorem wh_bw (k i : Nat) (hk : k < t.o.length) : bq ((bwd t k).getD i 0) <= E := by
 have h := (w.bwd k i).bq (Nat.mul_pos (Nat.pow_pos pos.2.1) (Nat.pow_pos pos.2.2)) (bwd_nn (Nn.of hv) k i) (bwd_le1 hv k i)
 have h2 := sz_mul (b ^ (k + 1)) (c ^ k)
 have h3 := sz_pow b (k + 1)
 have h4 := sz_pow c k
 have h5 := Nat.mul_le_mul_right (sz b) (show k + 1 <= F by omega)
 have h6 := Nat.mul_le_mul_right (sz c) (show k <= F by omega)
 rw [Nat.mul_add] at hE
 omega
theorem wh_lk : bq (lk t) <= E := by
 have h := w.lk.bq (Nat.mul_pos pos.1 (Nat.mul_pos (Nat.pow_pos pos.2.1) (Nat.pow_pos pos.2.2))) (lk_nn (Nn.of hv)) (lk_le1 hv)
 have h1 := dT_sz (t := t) (a := a) (b := b) (c := c) hF
 unfold dT at h1; omega
end
theorem cn_of {t : Tr} {E W F : Nat} (hf : ∀ k i,k < t.o.length -> bq ((fwd t k).getD i 0) <= E) (hb : ∀ k i,k < t.o.length -> bq ((bwd t k).getD i 0) <= E) (hl : bq (lk t) <= E) (hw : MdW W t.m) (hF : t.o.length <= F) (hp : 0 < t.o.length) (hE : 1 <= E) (h6 : 1 + F * (3 * E + 2 * W + 1) <= 60000000) :
 CnB t /\ ∀ i j,bq ((cntT t).start.getD i 0) <= 60000000 /\ bq ((cntT t).fin.getD i 0) <= 60000000 /\ bq (((cntT t).move.getD i []).getD j 0) <= 60000000 /\ bq (((cntT t).say.getD i []).getD j 0) <= 60000000 := by
 have h0 : bq (0 : Rat) = 1 := bq_zero
 have hQ : 3 * E + 2 * W + 1 <= F * (3 * E + 2 * W + 1) := Nat.le_mul_of_pos_left _ (by omega)
 have hY : ∀ i k,k < t.o.length -> bq (pY t i k) <= 3 * E := fun i k hk => by
  have h1 := bq_div ((fwd t k).getD i 0 * (bwd t (t.o.length - 1 - k)).getD i 0) (lk t)
  have h2 := bq_mul ((fwd t k).getD i 0) ((bwd t (t.o.length - 1 - k)).getD i 0)
  have h3 := hf k i hk
  have h4 := hb (t.o.length - 1 - k) i (by omega)
  unfold pY; omega
 have hM : ∀ i k j,k < t.o.length -> bq (pM t i k j) <= 3 * E + 2 * W := fun i k j hk => by
  have h1 := bq_div (wM t i k j) (lk t)
  have h2 := bq_mul ((fwd t k).getD i 0) (moveT t i j)
  have h3 := bq_mul ((fwd t k).getD i 0 * moveT t i j) (sayT t j (k + 1))
  have h4 := bq_mul ((fwd t k).getD i 0 * moveT t i j * sayT t j (k + 1)) ((bwd t (t.o.length - 1 - (k + 1))).getD j 0)
  have h5 := hf k i hk
  have h6 := hb (t.o.length - 1 - (k + 1)) j (by omega)
  have h7 : bq (moveT t i j) <= W := hw.mv i j
  have h8 : bq (sayT t j (k + 1)) <= W := hw.sy j _
  unfold pM
  have : bq (wM t i k j) <= E + W + W + E := by unfold wM; omega
  omega
 have hm : ∀ k,k <= t.o.length -> k * (3 * E + 2 * W + 1) <= F * (3 * E + 2 * W + 1) := fun k hk => Nat.mul_le_mul_right _ (by omega)
 have hS : ∀ i k x,k <= t.o.length -> bq ((sayRow t i k).getD x 0) <= 1 + k * (3 * E + 2 * W + 1) := fun i k => by
  induction k with
  | zero =>
    intro x _
    rw [sayRow]; have := rep_bq (symb t.m) x; omega
  | succ k ih =>
    intro x hk
    have h1 := ih x (by omega)
    rw [sayRow,Nat.add_mul,Nat.one_mul]
    by_cases e : (t.o.getD k 0).toNat = x
    · subst e
      by_cases hx : (t.o.getD k 0).toNat < (sayRow t i k).length
      · rw [getD_set_is hx]
        have := bq_add ((sayRow t i k).getD (t.o.getD k 0).toNat 0) (pY t i k)
        have := hY i k (by omega)
        omega
      · rw [List.getD_eq_getElem?_getD,List.getElem?_eq_none (by rw [List.length_set]; omega)]
        show bq (0 : Rat) <= _; omega
    · rw [getD_set_ne' e]; omega
 have hR : ∀ i k x,k <= t.o.length -> bq ((mvRow t i k).getD x 0) <= 1 + k * (3 * E + 2 * W + 1) := fun i k => by
  induction k with
  | zero =>
    intro x _
    rw [mvRow]; have := rep_bq t.m.start.length x; omega
  | succ k ih =>
    intro x hk
    have h1 := ih x (by omega)
    rw [Nat.add_mul,Nat.one_mul]
    by_cases hx : x < t.m.start.length
    · rw [<- mvRow_at hx]
      have := bq_add ((mvRow t i k).getD x 0) (pM t i k x)
      have := hM i k x (by omega)
      omega
    · rw [List.getD_eq_getElem?_getD,List.getElem?_eq_none (by rw [mvRow_len]; omega)]
      show bq (0 : Rat) <= _; omega
 refine ⟨⟨by omega,fun i k x hk => ?_,fun i k x hk => ?_,fun i k hk => ?_,fun i k j hk => ?_⟩,fun i j => ?_⟩
 · have := hS i k x hk; have := hm k hk; omega
 · have := hR i k x hk; have := hm k hk; omega
 · have := hY i k hk; omega
 · have := hM i k j hk; omega
 · by_cases hi : i < t.m.start.length
   · refine ⟨?_, ?_, ?_, ?_⟩
     · show bq ((cntS t).getD i 0) <= _; rw [cntS,range_getD _ _ hi]; have := hY i 0 hp; show bq (pY t i 0) <= _; omega
     · show bq ((cntE t).getD i 0) <= _; rw [cntE,range_getD _ _ hi,pE_pY hi]; have := hY i (t.o.length - 1) (by omega); omega
     · show bq (((cntM t).getD i []).getD j 0) <= _; rw [cntM,range_getD _ _ hi]; have := hR i (t.o.length - 1) j (by omega); have := hm (t.o.length - 1) (by omega); omega
     · show bq (((cntY t).getD i []).getD j 0) <= _; rw [cntY,range_getD _ _ hi]; have := hS i t.o.length j (Nat.le_refl _); have := hm t.o.length (Nat.le_refl _); omega
   · have z : ∀ {l : List Rat},l.length = t.m.start.length -> l.getD i 0 = 0 := fun {l} hl => by rw [List.getD_eq_getElem?_getD,List.getElem?_eq_none (by omega)]; rfl
     have z2 : ∀ {l : List (List Rat)},l.length = t.m.start.length -> (l.getD i []).getD j 0 = 0 := fun {l} hl => by rw [List.getD_eq_getElem?_getD (l := l),List.getElem?_eq_none (by omega)]; rfl
     refine ⟨?_, ?_, ?_, ?_⟩
     · show bq ((cntS t).getD i 0) <= _; rw [z (cntS_len t)]; omega
     · show bq ((cntE t).getD i 0) <= _; rw [z (cntE_len t)]; omega
     · show bq (((cntM t).getD i []).getD j 0) <= _; rw [z2 (cntM_len t)]; omega
     · show bq (((cntY t).getD i []).getD j 0) <= _; rw [z2 (cntY_len t)]; omega
end Go.E3
