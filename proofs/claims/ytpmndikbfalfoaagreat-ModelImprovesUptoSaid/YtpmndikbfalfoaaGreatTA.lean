/- TA: a part of the proofs about package model: how the program's functions run, and what they compute, for every input. -/
import Derived.Test.YtpmndikbfalfoaaGreatT7
import Derived.Test.YtpmndikbfalfoaaGreatPB
set_option linter.all false
set_option linter.unusedVariables false
set_option maxRecDepth 20000
namespace Go.E3
open Go Go.Ear Go.Proofs
theorem negK {x : List Rat} (hx : ∀ i, 0 ≤ x.getD i 0) : (x.map frK).any negF = false := any_of (List.length_map _) fun i _ => decide_eq_false fun h => by
  rw [getD_K, frK_rat] at h
  have := hx i; grind
theorem shr_K {x : List Rat} {b : List Fr} (hx : ∀ i, 0 ≤ x.getD i 0) : shrQ (x.map frK) b = if sumR x = 0 then ratsL b else x.map fun q => q / sumR x := by
  unfold shrQ normE normF
  rw [negK hx, sumF_K]
  by_cases h : sumR x = 0
  · rw [if_pos h]; simp [h]
  · rw [if_neg h]
    simp only [h, Bool.false_eq_true, if_false, or_self, if_true, List.map_map]
    refine List.map_congr_left fun q _ => ?_
    show (frK q).rat * _ = _
    rw [frK_rat, Rat.div_def]
theorem rats_at (b : List Fr) (i : Nat) : (ratsL b).getD i 0 = (b.getD i fr0).rat := by
  unfold ratsL
  rw [List.getD_eq_getElem?_getD, List.getElem?_map, List.getD_eq_getElem?_getD]
  cases b[i]? with
  | none => show (0 : Rat) = fr0.rat; decide +kernel
  | some x => rfl
theorem div_at (x : List Rat) (s : Rat) (i : Nat) : (x.map fun q => q / s).getD i 0 = x.getD i 0 / s := by
  rw [List.getD_eq_getElem?_getD, List.getElem?_map, List.getD_eq_getElem?_getD]
  cases x[i]? with
  | none => show (0 : Rat) = 0 / s; rw [zero_div_rat]
  | some x => rfl
theorem shr_at {x : List Rat} {b : List Fr} (hx : ∀ i, 0 ≤ x.getD i 0) (i : Nat) : (shrQ (x.map frK) b).getD i 0 = if sumR x = 0 then (b.getD i fr0).rat else x.getD i 0 / sumR x := by
  rw [shr_K hx]
  split
  · exact rats_at b i
  · exact div_at x _ i
theorem sumR_nn {x : List Rat} (hx : ∀ i, 0 ≤ x.getD i 0) : 0 ≤ sumR x := sumTo_nonneg _ fun i _ => hx i
theorem le_sumR {x : List Rat} (hx : ∀ i, 0 ≤ x.getD i 0) (i : Nat) : x.getD i 0 ≤ sumR x := by
  by_cases hi : i < x.length
  · exact sumTo_one (fun j _ => hx j) hi
  · rw [List.getD_eq_getElem?_getD, List.getElem?_eq_none (by omega)]; exact sumR_nn hx
def rD (L d : Nat) (x : List Rat) : Nat := if sumR x = 0 then d else whN L (sumR x)
section
variable {L d : Nat} {x : List Rat} {b : List Fr} (hx : ∀ i, 0 ≤ x.getD i 0) (hw : ∀ i, Wh L (x.getD i 0)) (hb : ∀ i, Wh d (b.getD i fr0).rat)
include hx hw
theorem rD_wh (i : Nat) (hb : ∀ i, Wh d (b.getD i fr0).rat) : Wh (rD L d x) ((shrQ (x.map frK) b).getD i 0) := by
  rw [shr_at hx]
  unfold rD
  by_cases h : sumR x = 0
  · rw [if_pos h, if_pos h]; exact hb i
  · rw [if_neg h, if_neg h]
    have := sumR_nn hx
    exact (hw i).part (Wh.sum _ fun j _ => hw j) (by grind)
theorem rD_pos (hL : 0 < L) (hd : 0 < d) : 0 < rD L d x := by
  unfold rD
  split
  · exact hd
  · have := sumR_nn hx
    exact whN_pos (Wh.sum _ fun j _ => hw j) (by grind) hL
theorem rD_sz {B : Nat} (hB : sumR x ≤ (B : Rat)) : sz (rD L d x) ≤ max (sz d) (sz B + sz L) := by
  unfold rD
  split
  · omega
  · have h1 := whN_le (B := B) (Wh.sum _ fun j _ => hw j) (sumR_nn hx) hB
    have h2 := sz_mono h1
    have h3 := sz_mul B L
    have h4 : sz (whN L (sumR x)) ≤ sz (B * L) := h2
    omega
end
theorem shr_01 {x : List Rat} {b : List Fr} (hx : ∀ i, 0 ≤ x.getD i 0) (hb : ∀ i, 0 ≤ (b.getD i fr0).rat ∧ (b.getD i fr0).rat ≤ 1) (i : Nat) : 0 ≤ (shrQ (x.map frK) b).getD i 0 ∧ (shrQ (x.map frK) b).getD i 0 ≤ 1 := by
  rw [shr_at hx]
  split
  · exact hb i
  · have h0 := sumR_nn hx
    have hp : 0 < sumR x := by grind
    have h1 := le_sumR hx i
    refine ⟨by rw [Rat.div_def]; exact Rat.mul_nonneg (hx i) (Rat.le_of_lt (Rat.inv_pos.2 hp)), ?_⟩
    have := Rat.mul_le_mul_of_nonneg_right h1 (Rat.le_of_lt (Rat.inv_pos.2 hp))
    rw [Rat.mul_inv_cancel _ (by grind)] at this
    rw [Rat.div_def]; exact this
theorem shr_nz {x : List Rat} {b : List Fr} (hx : ∀ i, 0 ≤ x.getD i 0) (h : sumR x ≠ 0) : nz (shrQ (x.map frK) b) ≤ nz x := by
  rw [shr_K hx, if_neg h]
  unfold nz
  rw [List.length_map]
  exact nzTo_le _ fun i _ e => by
    rw [div_at]
    have e : x.getD i 0 = 0 := e
    rw [e, zero_div_rat]
def prN (f : Nat → Nat) : Nat → Nat
  | 0 => 1
  | n + 1 => prN f n * f n
theorem prN_dvd (f : Nat → Nat) : ∀ {n i : Nat}, i < n → f i ∣ prN f n
  | n + 1, i, h => by
    rw [prN]
    by_cases e : i = n
    · subst e; exact Nat.dvd_mul_left _ _
    · exact Nat.dvd_trans (prN_dvd f (by omega)) (Nat.dvd_mul_right _ _)
theorem prN_pos {f : Nat → Nat} : ∀ n, (∀ i, i < n → 0 < f i) → 0 < prN f n
  | 0, _ => by rw [prN]; decide
  | n + 1, h => Nat.mul_pos (prN_pos n fun i hi => h i (by omega)) (h n (by omega))
theorem prN_sz {f : Nat → Nat} {K : Nat} : ∀ n, (∀ i, i < n → sz (f i) ≤ K) → sz (prN f n) ≤ 1 + n * K
  | 0, _ => by rw [prN, sz_one]; omega
  | n + 1, h => by
    have ih := prN_sz n fun i hi => h i (by omega)
    have h1 := h n (by omega)
    have h2 := sz_mul (prN f n) (f n)
    rw [prN, Nat.add_mul, Nat.one_mul]; omega
end Go.E3
set_option linter.unusedVariables false
set_option maxRecDepth 20000
namespace Go.E3
open Go Go.Ear Go.Proofs
theorem pM_nn {t : Tr} (nn : Nn t.m) (i k j : Nat) : 0 ≤ pM t i k j := by
  unfold pM wM; rw [Rat.div_def]
  exact Rat.mul_nonneg (Rat.mul_nonneg (Rat.mul_nonneg (Rat.mul_nonneg (fwd_nn nn _ _) (nn.mv i j)) (nn.sy j _)) (bwd_nn nn _ _)) (inv_nn (lk_nn nn))
theorem rep_nn (n i : Nat) : 0 ≤ (List.replicate n (0 : Rat)).getD i 0 := by
  rw [List.getD_eq_getElem?_getD, List.getElem?_replicate]; split <;> exact Rat.le_refl
theorem sayRow_nn {t : Tr} (nn : Nn t.m) (i x : Nat) : ∀ k, 0 ≤ (sayRow t i k).getD x 0
  | 0 => rep_nn _ x
  | k + 1 => by
    have ih := sayRow_nn nn i x k
    rw [sayRow]
    by_cases e : (t.o.getD k 0).toNat = x
    · subst e
      by_cases hx : (t.o.getD k 0).toNat < (sayRow t i k).length
      · rw [getD_set_is hx]; exact Rat.add_nonneg ih (pY_nn nn i k)
      · rw [List.getD_eq_getElem?_getD, List.getElem?_eq_none (by rw [List.length_set]; omega)]; exact Rat.le_refl
    · rw [getD_set_ne' e]; exact ih
theorem mvRow_nn {t : Tr} (nn : Nn t.m) (i j : Nat) : ∀ k, 0 ≤ (mvRow t i k).getD j 0
  | 0 => rep_nn _ j
  | k + 1 => by
    by_cases hj : j < t.m.start.length
    · rw [← mvRow_at hj]; exact Rat.add_nonneg (mvRow_nn nn i j k) (pM_nn nn i k j)
    · rw [List.getD_eq_getElem?_getD, List.getElem?_eq_none (by rw [mvRow_len]; omega)]; exact Rat.le_refl
theorem cnt_nn {t : Tr} (nn : Nn t.m) (i j : Nat) : 0 ≤ (cntT t).start.getD i 0 ∧ 0 ≤ (cntT t).fin.getD i 0 ∧ 0 ≤ ((cntT t).move.getD i []).getD j 0 ∧ 0 ≤ ((cntT t).say.getD i []).getD j 0 := by
  by_cases hi : i < t.m.start.length
  · refine ⟨?_, ?_, ?_, ?_⟩
    · show 0 ≤ (cntS t).getD i 0; rw [cntS, range_getD _ _ hi]; exact pY_nn nn i 0
    · show 0 ≤ (cntE t).getD i 0; rw [cntE, range_getD _ _ hi, pE_pY hi]; exact pY_nn nn i _
    · show 0 ≤ ((cntM t).getD i []).getD j 0; rw [cntM, range_getD _ _ hi]; exact mvRow_nn nn i j _
    · show 0 ≤ ((cntY t).getD i []).getD j 0; rw [cntY, range_getD _ _ hi]; exact sayRow_nn nn i j _
  · have z : ∀ {l : List Rat}, l.length = t.m.start.length → l.getD i 0 = 0 := fun {l} hl => by rw [List.getD_eq_getElem?_getD, List.getElem?_eq_none (by omega)]; rfl
    have z2 : ∀ {l : List (List Rat)}, l.length = t.m.start.length → (l.getD i []).getD j 0 = 0 := fun {l} hl => by rw [List.getD_eq_getElem?_getD (l := l), List.getElem?_eq_none (by omega)]; rfl
    refine ⟨?_, ?_, ?_, ?_⟩
    · show 0 ≤ (cntS t).getD i 0; rw [z (cntS_len t)]; exact Rat.le_refl
    · show 0 ≤ (cntE t).getD i 0; rw [z (cntE_len t)]; exact Rat.le_refl
    · show 0 ≤ ((cntM t).getD i []).getD j 0; rw [z2 (cntM_len t)]; exact Rat.le_refl
    · show 0 ≤ ((cntY t).getD i []).getD j 0; rw [z2 (cntY_len t)]; exact Rat.le_refl
theorem addR_nn {x y : List Rat} (hx : ∀ i, 0 ≤ x.getD i 0) (hy : ∀ i, 0 ≤ y.getD i 0) (i : Nat) : 0 ≤ (addR x y).getD i 0 := by
  by_cases hi : i < x.length
  · rw [addR, range_getD _ _ hi]; exact Rat.add_nonneg (hx i) (hy i)
  · rw [List.getD_eq_getElem?_getD, List.getElem?_eq_none (by rw [addR_len]; omega)]; exact Rat.le_refl
theorem addM_nn {x y : List (List Rat)} (hx : ∀ i j, 0 ≤ (x.getD i []).getD j 0) (hy : ∀ i j, 0 ≤ (y.getD i []).getD j 0) (i j : Nat) : 0 ≤ ((addM x y).getD i []).getD j 0 := by
  by_cases hi : i < x.length
  · rw [← addM_at hi]; exact addR_nn (hx i) (hy i) j
  · rw [List.getD_eq_getElem?_getD (l := addM x y), List.getElem?_eq_none (by rw [addM_len]; omega)]; exact Rat.le_refl
theorem all_nn {m : Md} {data : List (List Int)} (nn : Nn m) : ∀ k i j, 0 ≤ (allT m data k).start.getD i 0 ∧ 0 ≤ (allT m data k).fin.getD i 0 ∧ 0 ≤ ((allT m data k).move.getD i []).getD j 0 ∧ 0 ≤ ((allT m data k).say.getD i []).getD j 0
  | 0, i, j => by
    have z2 : ∀ n k i j, 0 ≤ ((List.replicate n (List.replicate k (0 : Rat))).getD i []).getD j 0 := fun n k i j => by
      rw [List.getD_eq_getElem?_getD (l := List.replicate n (List.replicate k (0 : Rat))), List.getElem?_replicate]
      split
      · exact rep_nn k j
      · exact Rat.le_refl
    exact ⟨rep_nn _ i, rep_nn _ i, z2 _ _ i j, z2 _ _ i j⟩
  | k + 1, i, j => by
    have ih := all_nn (m := m) (data := data) nn k
    by_cases h : lk (Go.Ear.trK m data k) = 0
    · rw [allT_t h]; exact ih i j
    · have hc := cnt_nn (t := Go.Ear.trK m data k) nn
      rw [allT_f h]
      exact ⟨addR_nn (fun i => (ih i 0).1) (fun i => (hc i 0).1) i, addR_nn (fun i => (ih i 0).2.1) (fun i => (hc i 0).2.1) i, addM_nn (fun i j => (ih i j).2.2.1) (fun i j => (hc i j).2.2.1) i j, addM_nn (fun i j => (ih i j).2.2.2) (fun i j => (hc i j).2.2.2) i j⟩
theorem sumR_snoc (l : List Rat) (q : Rat) : sumR (l ++ [q]) = sumR l + q := by
  unfold sumR
  rw [List.length_append, List.length_singleton, sumTo_succ]
  congr 1
  · exact sumTo_congr _ fun i hi => by rw [List.getD_eq_getElem?_getD, List.getElem?_append_left hi, ← List.getD_eq_getElem?_getD]
  · rw [List.getD_eq_getElem?_getD, List.getElem?_append_right (Nat.le_refl _), Nat.sub_self]; rfl
theorem snoc_at (l : List Rat) (q : Rat) (j : Nat) : (l ++ [q]).getD j 0 = if j < l.length then l.getD j 0 else if j = l.length then q else 0 := by
  by_cases h : j < l.length
  · rw [if_pos h, List.getD_eq_getElem?_getD, List.getElem?_append_left h, ← List.getD_eq_getElem?_getD]
  · rw [if_neg h, List.getD_eq_getElem?_getD, List.getElem?_append_right (by omega)]
    by_cases e : j = l.length
    · rw [if_pos e, e, Nat.sub_self]; rfl
    · rw [if_neg e, List.getElem?_eq_none (by simp; omega)]; rfl
theorem snocF_at (l : List Fr) (q : Fr) (j : Nat) : (l ++ [q]).getD j fr0 = if j < l.length then l.getD j fr0 else if j = l.length then q else fr0 := by
  by_cases h : j < l.length
  · rw [if_pos h, List.getD_eq_getElem?_getD, List.getElem?_append_left h, ← List.getD_eq_getElem?_getD]
  · rw [if_neg h, List.getD_eq_getElem?_getD, List.getElem?_append_right (by omega)]
    by_cases e : j = l.length
    · rw [if_pos e, e, Nat.sub_self]; rfl
    · rw [if_neg e, List.getElem?_eq_none (by simp; omega)]; rfl
def lvT (C : Go.Ear.Ct) (i : Nat) : List Rat := C.move.getD i [] ++ [C.fin.getD i 0]
theorem lvC_K (C : Go.Ear.Ct) (i : Nat) : lvC (cntK C) i = (lvT C i).map frK := by
  show (C.move.map (·.map frK)).getD i [] ++ [(C.fin.map frK).getD i fr0] = _
  rw [getD_KR, getD_K]
  unfold lvT; rw [List.map_append]; rfl
theorem sy_K (C : Go.Ear.Ct) (i : Nat) : (cntK C).say.getD i [] = (C.say.getD i []).map frK := getD_KR _ _
section
variable {C : Go.Ear.Ct} (hn : ∀ i j, 0 ≤ C.start.getD i 0 ∧ 0 ≤ C.fin.getD i 0 ∧ 0 ≤ (C.move.getD i []).getD j 0 ∧ 0 ≤ (C.say.getD i []).getD j 0)
include hn
theorem lvT_nn (i j : Nat) : 0 ≤ (lvT C i).getD j 0 := by
  unfold lvT; rw [snoc_at]
  split
  · exact (hn i j).2.2.1
  · split
    · exact (hn i 0).2.1
    · exact Rat.le_refl
end
theorem lvT_wh {C : Go.Ear.Ct} {L : Nat} (hw : ∀ i j, Wh L (C.start.getD i 0) ∧ Wh L (C.fin.getD i 0) ∧ Wh L ((C.move.getD i []).getD j 0) ∧ Wh L ((C.say.getD i []).getD j 0)) (i j : Nat) : Wh L ((lvT C i).getD j 0) := by
  unfold lvT; rw [snoc_at]
  split
  · exact (hw i j).2.2.1
  · split
    · exact (hw i 0).2.1
    · exact Wh.zero _
theorem lvM_at (m : Md) (i j : Nat) : ((lvM m i).getD j fr0).rat = if j < (m.move.getD i []).length then ((m.move.getD i []).getD j fr0).rat else if j = (m.move.getD i []).length then (m.fin.getD i fr0).rat else 0 := by
  unfold lvM; rw [snocF_at]
  split
  · rfl
  · split
    · rfl
    · show fr0.rat = 0; decide +kernel
section
variable {n : Nat} {s : List Rat} {l y : Nat → List Rat}
theorem ch_st (i : Nat) : ((chM n s l y).start.getD i fr0).rat = s.getD i 0 := stK
theorem ch_mv {i j : Nat} (hi : i < n) (hj : j < n) : (((chM n s l y).move.getD i []).getD j fr0).rat = (l i).getD j 0 := by
  have : (((chM n s l y).move.getD i []).getD j fr0).rat = (((List.range n).map fun i => (l i).take n).getD i []).getD j 0 := mvK
  rw [this, range_getD _ _ hi, List.getD_eq_getElem?_getD, List.getElem?_take, if_pos hj, ← List.getD_eq_getElem?_getD]
theorem ch_fi {i : Nat} (hi : i < n) : ((chM n s l y).fin.getD i fr0).rat = (l i).getD n 0 := by
  have : ((chM n s l y).fin.getD i fr0).rat = ((List.range n).map fun i => (l i).getD n 0).getD i 0 := fiK
  rw [this, range_getD _ _ hi]
theorem ch_sy {i x : Nat} (hi : i < n) : (((chM n s l y).say.getD i []).getD x fr0).rat = (y i).getD x 0 := by
  have : (((chM n s l y).say.getD i []).getD x fr0).rat = (((List.range n).map y).getD i []).getD x 0 := syK
  rw [this, range_getD _ _ hi]
theorem ch_out (hl : ∀ i, i < n → (l i).length = n + 1) : (∀ i j, n ≤ i → (((chM n s l y).move.getD i []).getD j fr0).rat = 0 ∧ ((chM n s l y).fin.getD i fr0).rat = 0 ∧ (((chM n s l y).say.getD i []).getD j fr0).rat = 0) ∧ ∀ i j, i < n → n ≤ j → (((chM n s l y).move.getD i []).getD j fr0).rat = 0 := by
  have e1 : ∀ f : Nat → List Rat, ∀ i, n ≤ i → ((List.range n).map f).getD i [] = [] := fun f i hi => by rw [List.getD_eq_getElem?_getD, List.getElem?_eq_none (by simp; omega)]; rfl
  refine ⟨fun i j hi => ⟨?_, ?_, ?_⟩, fun i j hi hj => ?_⟩
  · have : (((chM n s l y).move.getD i []).getD j fr0).rat = (((List.range n).map fun i => (l i).take n).getD i []).getD j 0 := mvK
    rw [this, e1 _ i hi]; rfl
  · have : ((chM n s l y).fin.getD i fr0).rat = ((List.range n).map fun i => (l i).getD n 0).getD i 0 := fiK
    rw [this, List.getD_eq_getElem?_getD, List.getElem?_eq_none (by simp; omega)]; rfl
  · have : (((chM n s l y).say.getD i []).getD j fr0).rat = (((List.range n).map y).getD i []).getD j 0 := syK
    rw [this, e1 _ i hi]; rfl
  · have : (((chM n s l y).move.getD i []).getD j fr0).rat = (((List.range n).map fun i => (l i).take n).getD i []).getD j 0 := mvK
    rw [this, range_getD _ _ hi, List.getD_eq_getElem?_getD, List.getElem?_eq_none (by rw [List.length_take]; have := hl i hi; omega)]; rfl
end
end Go.E3
set_option linter.unusedVariables false
set_option maxRecDepth 20000
namespace Go.E3
open Go Go.Ear Go.Proofs
theorem _root_.Go.Ear.Wh.bqB {D B : Nat} {q : Rat} (h : Wh D q) (hD : 0 < D) (hB : 0 < B) (h0 : 0 ≤ q) (h1 : q ≤ (B : Rat)) : bq q ≤ sz D + sz B := by
  have hBp : (0 : Rat) < (B : Rat) := Rat.natCast_pos.2 hB
  have hB0 : (B : Rat) ≠ 0 := by grind
  have hq : q = q / (B : Rat) * ((B : Int) : Rat) := by
    rw [Rat.intCast_natCast, Rat.div_def, Rat.mul_assoc, Rat.inv_mul_cancel _ hB0, Rat.mul_one]
  have hw : Wh (D * B) (q / (B : Rat)) := by
    obtain ⟨a, ha⟩ := h
    refine ⟨a, ?_⟩
    rw [Rat.natCast_mul, Rat.mul_comm (D : Rat), mul_rot hB0, ha]
  obtain ⟨a, ha⟩ := h
  have hDp : (0 : Rat) < (D : Rat) := Rat.natCast_pos.2 hD
  have hD0 : (D : Rat) ≠ 0 := by grind
  have e : q = (a : Rat) / (D : Rat) := by rw [← ha, Rat.div_def, Rat.mul_assoc, Rat.mul_inv_cancel _ hD0, Rat.mul_one]
  have e2 : q = mkRat a D := by rw [Rat.mkRat_eq_div]; exact e
  have hd : q.den ∣ D := by
    rw [e2, Rat.den_mkRat, if_neg (by omega)]
    exact Nat.div_dvd_of_dvd (Nat.gcd_dvd_left _ _)
  have hdl : q.den ≤ D := Nat.le_of_dvd hD hd
  have hn : q.num.natAbs ≤ B * q.den := by
    have hnn : 0 ≤ q.num := Rat.num_nonneg.2 h0
    have hle : q.num ≤ ((B * q.den : Nat) : Int) := by
      have h2 := num_eq q
      have h3 : (q.num : Rat) ≤ (((B * q.den : Nat) : Int) : Rat) := by
        rw [← h2, Rat.intCast_natCast, Rat.natCast_mul]
        exact Rat.mul_le_mul_of_nonneg_right h1 Rat.natCast_nonneg
      exact_mod_cast h3
    omega
  have h5 := sz_mono hn
  have h6 := sz_mul B q.den
  have h7 := sz_mono hdl
  unfold Go.Ear.bq
  exact Nat.max_le.2 ⟨by omega, by omega⟩
section
variable {t : Tr} {a b c F E : Nat} (w : WhM t.m a b c) (hv : validM t.m = true) (pos : 0 < a ∧ 0 < b ∧ 0 < c) (hF : t.o.length ≤ F) (hE : sz a + F * (sz b + sz c) + 2 ≤ E)
include w hv pos hF hE
theorem wh_fw (k i : Nat) (hk : k < t.o.length) : bq ((fwd t k).getD i 0) ≤ E := by
  have h := (w.fwd k i).bq (Nat.mul_pos pos.1 (Nat.mul_pos (Nat.pow_pos pos.2.1) (Nat.pow_pos pos.2.2))) (fwd_nn (Nn.of hv) k i) (fwd_le1 hv k i)
  have h1 := sz_mul a (b ^ k * c ^ (k + 1))
  have h2 := sz_mul (b ^ k) (c ^ (k + 1))
  have h3 := sz_pow b k
  have h4 := sz_pow c (k + 1)
  have h5 := Nat.mul_le_mul_right (sz b) (show k ≤ F by omega)
  have h6 := Nat.mul_le_mul_right (sz c) (show k + 1 ≤ F by omega)
  rw [Nat.mul_add] at hE
  omega
theorem wh_bw (k i : Nat) (hk : k < t.o.length) : bq ((bwd t k).getD i 0) ≤ E := by
  have h := (w.bwd k i).bq (Nat.mul_pos (Nat.pow_pos pos.2.1) (Nat.pow_pos pos.2.2)) (bwd_nn (Nn.of hv) k i) (bwd_le1 hv k i)
  have h2 := sz_mul (b ^ (k + 1)) (c ^ k)
  have h3 := sz_pow b (k + 1)
  have h4 := sz_pow c k
  have h5 := Nat.mul_le_mul_right (sz b) (show k + 1 ≤ F by omega)
  have h6 := Nat.mul_le_mul_right (sz c) (show k ≤ F by omega)
  rw [Nat.mul_add] at hE
  omega
theorem wh_lk : bq (lk t) ≤ E := by
  have h := w.lk.bq (Nat.mul_pos pos.1 (Nat.mul_pos (Nat.pow_pos pos.2.1) (Nat.pow_pos pos.2.2))) (lk_nn (Nn.of hv)) (lk_le1 hv)
  have h1 := dT_sz (t := t) (a := a) (b := b) (c := c) hF
  unfold dT at h1; omega
end
theorem cn_of {t : Tr} {E W F : Nat} (hf : ∀ k i, k < t.o.length → bq ((fwd t k).getD i 0) ≤ E) (hb : ∀ k i, k < t.o.length → bq ((bwd t k).getD i 0) ≤ E) (hl : bq (lk t) ≤ E) (hw : MdW W t.m) (hF : t.o.length ≤ F) (hp : 0 < t.o.length) (hE : 1 ≤ E) (h6 : 1 + F * (3 * E + 2 * W + 1) ≤ 60000000) :
    CnB t ∧ ∀ i j, bq ((cntT t).start.getD i 0) ≤ 60000000 ∧ bq ((cntT t).fin.getD i 0) ≤ 60000000 ∧ bq (((cntT t).move.getD i []).getD j 0) ≤ 60000000 ∧ bq (((cntT t).say.getD i []).getD j 0) ≤ 60000000 := by
  have h0 : bq (0 : Rat) = 1 := bq_zero
  have hQ : 3 * E + 2 * W + 1 ≤ F * (3 * E + 2 * W + 1) := Nat.le_mul_of_pos_left _ (by omega)
  have hY : ∀ i k, k < t.o.length → bq (pY t i k) ≤ 3 * E := fun i k hk => by
    have h1 := bq_div ((fwd t k).getD i 0 * (bwd t (t.o.length - 1 - k)).getD i 0) (lk t)
    have h2 := bq_mul ((fwd t k).getD i 0) ((bwd t (t.o.length - 1 - k)).getD i 0)
    have h3 := hf k i hk
    have h4 := hb (t.o.length - 1 - k) i (by omega)
    unfold pY; omega
  have hM : ∀ i k j, k < t.o.length → bq (pM t i k j) ≤ 3 * E + 2 * W := fun i k j hk => by
    have h1 := bq_div (wM t i k j) (lk t)
    have h2 := bq_mul ((fwd t k).getD i 0) (moveT t i j)
    have h3 := bq_mul ((fwd t k).getD i 0 * moveT t i j) (sayT t j (k + 1))
    have h4 := bq_mul ((fwd t k).getD i 0 * moveT t i j * sayT t j (k + 1)) ((bwd t (t.o.length - 1 - (k + 1))).getD j 0)
    have h5 := hf k i hk
    have h6 := hb (t.o.length - 1 - (k + 1)) j (by omega)
    have h7 : bq (moveT t i j) ≤ W := hw.mv i j
    have h8 : bq (sayT t j (k + 1)) ≤ W := hw.sy j _
    unfold pM
    have : bq (wM t i k j) ≤ E + W + W + E := by unfold wM; omega
    omega
  have hm : ∀ k, k ≤ t.o.length → k * (3 * E + 2 * W + 1) ≤ F * (3 * E + 2 * W + 1) := fun k hk => Nat.mul_le_mul_right _ (by omega)
  have hS : ∀ i k x, k ≤ t.o.length → bq ((sayRow t i k).getD x 0) ≤ 1 + k * (3 * E + 2 * W + 1) := fun i k => by
    induction k with
    | zero =>
      intro x _
      rw [sayRow]; have := rep_bq (symb t.m) x; omega
    | succ k ih =>
      intro x hk
      have h1 := ih x (by omega)
      rw [sayRow, Nat.add_mul, Nat.one_mul]
      by_cases e : (t.o.getD k 0).toNat = x
      · subst e
        by_cases hx : (t.o.getD k 0).toNat < (sayRow t i k).length
        · rw [getD_set_is hx]
          have := bq_add ((sayRow t i k).getD (t.o.getD k 0).toNat 0) (pY t i k)
          have := hY i k (by omega)
          omega
        · rw [List.getD_eq_getElem?_getD, List.getElem?_eq_none (by rw [List.length_set]; omega)]
          show bq (0 : Rat) ≤ _; omega
      · rw [getD_set_ne' e]; omega
  have hR : ∀ i k x, k ≤ t.o.length → bq ((mvRow t i k).getD x 0) ≤ 1 + k * (3 * E + 2 * W + 1) := fun i k => by
    induction k with
    | zero =>
      intro x _
      rw [mvRow]; have := rep_bq t.m.start.length x; omega
    | succ k ih =>
      intro x hk
      have h1 := ih x (by omega)
      rw [Nat.add_mul, Nat.one_mul]
      by_cases hx : x < t.m.start.length
      · rw [← mvRow_at hx]
        have := bq_add ((mvRow t i k).getD x 0) (pM t i k x)
        have := hM i k x (by omega)
        omega
      · rw [List.getD_eq_getElem?_getD, List.getElem?_eq_none (by rw [mvRow_len]; omega)]
        show bq (0 : Rat) ≤ _; omega
  refine ⟨⟨by omega, fun i k x hk => ?_, fun i k x hk => ?_, fun i k hk => ?_, fun i k j hk => ?_⟩, fun i j => ?_⟩
  · have := hS i k x hk; have := hm k hk; omega
  · have := hR i k x hk; have := hm k hk; omega
  · have := hY i k hk; omega
  · have := hM i k j hk; omega
  · by_cases hi : i < t.m.start.length
    · refine ⟨?_, ?_, ?_, ?_⟩
      · show bq ((cntS t).getD i 0) ≤ _; rw [cntS, range_getD _ _ hi]; have := hY i 0 hp; show bq (pY t i 0) ≤ _; omega
      · show bq ((cntE t).getD i 0) ≤ _; rw [cntE, range_getD _ _ hi, pE_pY hi]; have := hY i (t.o.length - 1) (by omega); omega
      · show bq (((cntM t).getD i []).getD j 0) ≤ _; rw [cntM, range_getD _ _ hi]; have := hR i (t.o.length - 1) j (by omega); have := hm (t.o.length - 1) (by omega); omega
      · show bq (((cntY t).getD i []).getD j 0) ≤ _; rw [cntY, range_getD _ _ hi]; have := hS i t.o.length j (Nat.le_refl _); have := hm t.o.length (Nat.le_refl _); omega
    · have z : ∀ {l : List Rat}, l.length = t.m.start.length → l.getD i 0 = 0 := fun {l} hl => by rw [List.getD_eq_getElem?_getD, List.getElem?_eq_none (by omega)]; rfl
      have z2 : ∀ {l : List (List Rat)}, l.length = t.m.start.length → (l.getD i []).getD j 0 = 0 := fun {l} hl => by rw [List.getD_eq_getElem?_getD (l := l), List.getElem?_eq_none (by omega)]; rfl
      refine ⟨?_, ?_, ?_, ?_⟩
      · show bq ((cntS t).getD i 0) ≤ _; rw [z (cntS_len t)]; omega
      · show bq ((cntE t).getD i 0) ≤ _; rw [z (cntE_len t)]; omega
      · show bq (((cntM t).getD i []).getD j 0) ≤ _; rw [z2 (cntM_len t)]; omega
      · show bq (((cntY t).getD i []).getD j 0) ≤ _; rw [z2 (cntY_len t)]; omega
end Go.E3
set_option linter.unusedVariables false
set_option maxRecDepth 20000
namespace Go.E3
open Go Go.Ear Go.Proofs
theorem div_zr (q : Rat) : q / 0 = 0 := by rw [Rat.div_def, Rat.inv_zero, Rat.mul_zero]
theorem cn_nil {t : Tr} (h : t.o.length = 0) : CnB t ∧ ∀ i j, bq ((cntT t).start.getD i 0) ≤ 60000000 ∧ bq ((cntT t).fin.getD i 0) ≤ 60000000 ∧ bq (((cntT t).move.getD i []).getD j 0) ≤ 60000000 ∧ bq (((cntT t).say.getD i []).getD j 0) ≤ 60000000 := by
  have h0 : bq (0 : Rat) = 1 := bq_zero
  have hlk := lk_zero h
  refine ⟨⟨by rw [hlk]; omega, fun i k x hk => ?_, fun i k x hk => ?_, fun i k hk => by omega, fun i k j hk => by omega⟩, fun i j => ?_⟩
  · have : k = 0 := by omega
    subst this
    rw [sayRow]; have := rep_bq (symb t.m) x; omega
  · have : k = 0 := by omega
    subst this
    rw [mvRow]; have := rep_bq t.m.start.length x; omega
  · by_cases hi : i < t.m.start.length
    · refine ⟨?_, ?_, ?_, ?_⟩
      · show bq ((cntS t).getD i 0) ≤ _; rw [cntS, range_getD _ _ hi]; unfold pS; rw [hlk, div_zr]; omega
      · show bq ((cntE t).getD i 0) ≤ _; rw [cntE, range_getD _ _ hi]; unfold pE; rw [hlk, div_zr]; omega
      · show bq (((cntM t).getD i []).getD j 0) ≤ _; rw [cntM, range_getD _ _ hi, h]; show bq ((mvRow t i 0).getD j 0) ≤ _; rw [mvRow]; have := rep_bq t.m.start.length j; omega
      · show bq (((cntY t).getD i []).getD j 0) ≤ _; rw [cntY, range_getD _ _ hi, h, sayRow]; have := rep_bq (symb t.m) j; omega
    · have z : ∀ {l : List Rat}, l.length = t.m.start.length → l.getD i 0 = 0 := fun {l} hl => by rw [List.getD_eq_getElem?_getD, List.getElem?_eq_none (by omega)]; rfl
      have z2 : ∀ {l : List (List Rat)}, l.length = t.m.start.length → (l.getD i []).getD j 0 = 0 := fun {l} hl => by rw [List.getD_eq_getElem?_getD (l := l), List.getElem?_eq_none (by omega)]; rfl
      refine ⟨?_, ?_, ?_, ?_⟩
      · show bq ((cntS t).getD i 0) ≤ _; rw [z (cntS_len t)]; omega
      · show bq ((cntE t).getD i 0) ≤ _; rw [z (cntE_len t)]; omega
      · show bq (((cntM t).getD i []).getD j 0) ≤ _; rw [z2 (cntM_len t)]; omega
      · show bq (((cntY t).getD i []).getD j 0) ≤ _; rw [z2 (cntY_len t)]; omega
theorem used_bd (m : Md) (data : List (List Int)) : ∀ k, 0 ≤ (allT m data k).used ∧ (allT m data k).used ≤ k
  | 0 => ⟨Int.le_refl _, Int.le_refl _⟩
  | k + 1 => by
    have ih := used_bd m data k
    by_cases h : lk (Go.Ear.trK m data k) = 0
    · rw [allT_t h]; dsimp only; omega
    · rw [allT_f h]; dsimp only; omega
theorem frm_bdF {m : Md} {data : List (List Int)} {F : Nat} (h : ∀ o ∈ data, o.length ≤ F) : ∀ k, k ≤ data.length → (allT m data k).used ≤ frmT m data k ∧ frmT m data k ≤ ((F * k : Nat) : Int)
  | 0, _ => ⟨Int.le_refl _, by rw [frmT]; omega⟩
  | k + 1, hk => by
    have ih := frm_bdF (m := m) h k (by omega)
    have h1 := h _ (getD_mem' data [] (show k < data.length by omega))
    have h2 : F * (k + 1) = F * k + F := Nat.mul_succ F k
    by_cases hl : lk (Go.Ear.trK m data k) = 0
    · rw [allT_t hl, frm_t hl]; dsimp only; omega
    · have hp : 0 < (Go.Ear.trK m data k).o.length := lk_pos hl
      have e1 : (Go.Ear.trK m data k).o.length = (data.getD k []).length := rfl
      rw [allT_f hl, frm_f hl]; dsimp only; omega
section
variable {m : Md} {data : List (List Int)} {F : Nat} (nn : Nn m) (tok : ∀ k, k < data.length → TOk (Go.Ear.trK m data k)) (hF : ∀ o ∈ data, o.length ≤ F)
include nn tok hF
theorem row_sums (k : Nat) (hk : k ≤ data.length) (i : Nat) : sumR (allT m data k).start ≤ ((F * k : Nat) : Rat) ∧ sumR (lvT (allT m data k) i) ≤ ((F * k : Nat) : Rat) ∧ sumR ((allT m data k).say.getD i []) ≤ ((F * k : Nat) : Rat) := by
  have ⟨s1, s2, s3, s4⟩ := all_sums tok k hk
  have hn := all_nn (m := m) (data := data) nn k
  have hu := used_bd m data k
  have hf := frm_bdF (m := m) hF k hk
  have hl := allT_len m data k
  have hle : ∀ {z : Int}, z ≤ ((F * k : Nat) : Int) → ((z : Int) : Rat) ≤ ((F * k : Nat) : Rat) := fun {z} hz => by
    rw [← Rat.intCast_natCast]; exact Rat.intCast_le_intCast.2 hz
  have hsub : ((frmT m data k - (allT m data k).used : Int) : Rat) + (((allT m data k).used : Int) : Rat) = ((frmT m data k : Int) : Rat) := by
    rw [← Rat.intCast_add]; congr 1; omega
  have h0 : (0 : Rat) ≤ ((F * k : Nat) : Rat) := Rat.natCast_nonneg
  have hrow : ∀ {l : List (List Rat)}, (∀ i j, 0 ≤ (l.getD i []).getD j 0) → ∀ i, sumR (l.getD i []) ≤ sumX l := fun {l} h i => by
    by_cases hi : i < l.length
    · exact sumTo_one (fun j _ => sumR_nn (h j)) hi
    · rw [List.getD_eq_getElem?_getD, List.getElem?_eq_none (by omega)]
      exact sumTo_nonneg _ fun j _ => sumR_nn (h j)
  refine ⟨by rw [s1]; exact hle (by omega), ?_, ?_⟩
  · unfold lvT
    rw [sumR_snoc]
    have h1 := hrow (fun i j => (hn i j).2.2.1) i
    have h2 := le_sumR (fun i => (hn i 0).2.1) i
    rw [s4] at h1
    rw [s2] at h2
    have h3 := hle hf.2
    grind
  · have h1 := hrow (fun i j => (hn i j).2.2.2) i
    rw [s3] at h1
    exact Rat.le_trans h1 (hle hf.2)
theorem all_le (k : Nat) (hk : k ≤ data.length) (i j : Nat) : (allT m data k).start.getD i 0 ≤ ((F * k : Nat) : Rat) ∧ (allT m data k).fin.getD i 0 ≤ ((F * k : Nat) : Rat) ∧ ((allT m data k).move.getD i []).getD j 0 ≤ ((F * k : Nat) : Rat) ∧ ((allT m data k).say.getD i []).getD j 0 ≤ ((F * k : Nat) : Rat) := by
  have hn := all_nn (m := m) (data := data) nn k
  have ⟨r1, r2, r3⟩ := row_sums nn tok hF k hk i
  have hl := lvT_nn (C := allT m data k) hn i
  have hlv := le_sumR hl
  refine ⟨Rat.le_trans (le_sumR (fun i => (hn i 0).1) i) r1, ?_, ?_, Rat.le_trans (le_sumR (fun j => (hn i j).2.2.2) j) r3⟩
  · have := hlv ((allT m data k).move.getD i []).length
    rw [show (lvT (allT m data k) i).getD ((allT m data k).move.getD i []).length 0 = (allT m data k).fin.getD i 0 by unfold lvT; rw [snoc_at, if_neg (by omega), if_pos rfl]] at this
    exact Rat.le_trans this r2
  · by_cases hj : j < ((allT m data k).move.getD i []).length
    · have := hlv j
      rw [show (lvT (allT m data k) i).getD j 0 = ((allT m data k).move.getD i []).getD j 0 by unfold lvT; rw [snoc_at, if_pos hj]] at this
      exact Rat.le_trans this r2
    · rw [List.getD_eq_getElem?_getD, List.getElem?_eq_none (by omega)]; exact Rat.natCast_nonneg
end
theorem sz_lt32 {n : Nat} (h : n < 4294967296) : sz n ≤ 1 := by
  by_cases h0 : n = 0
  · rw [h0, sz_zero]; omega
  · exact Nat.le_of_eq (sz_eq_one h0 h)
theorem DOk.wh {m : Md} {data : List (List Int)} {a b c F D E W : Nat} (w : WhM m a b c) (pos : 0 < a ∧ 0 < b ∧ 0 < c) (hc : checkE [m] data = 0) (mb : MdB 100000 m) (hw : MdW W m) (hF : ∀ o ∈ data, o.length ≤ F) (hD : data.length ≤ D) (hE : sz a + F * (sz b + sz c) + 2 ≤ E) (e1 : E ≤ 300000) (e2 : 1 + F * (3 * E + 2 * W + 1) ≤ 60000000) (e3 : 2 + D * E ≤ 70000000) (e4 : F * D < 4294967296) : DOk m data := by
  have hx := checkE_n hc
  have hv := hx.2.1
  have hl := valid_len hv
  have nn := Nn.of hv
  have hlong := hx.2.2
  unfold longM at hlong
  simp only [Bool.or_eq_false_iff, decide_eq_false_iff_not, Bool.and_eq_false_iff] at hlong
  have hy : symb m ≤ 64 := by rcases hlong.2 with q | q <;> omega
  have tok : ∀ k, k < data.length → TOk (Go.Ear.trK m data k) := fun k hk => checkE_TOk (checkE_one hc (getD_mem' data [] hk))
  have hFk : ∀ k, k < data.length → (Go.Ear.trK m data k).o.length ≤ F := fun k hk => hF _ (getD_mem' data [] hk)
  have hE1 : 1 ≤ E := by omega
  have hcn : ∀ k, k < data.length → CnB (Go.Ear.trK m data k) ∧ ∀ i j, bq ((cntT (Go.Ear.trK m data k)).start.getD i 0) ≤ 60000000 ∧ bq ((cntT (Go.Ear.trK m data k)).fin.getD i 0) ≤ 60000000 ∧ bq (((cntT (Go.Ear.trK m data k)).move.getD i []).getD j 0) ≤ 60000000 ∧ bq (((cntT (Go.Ear.trK m data k)).say.getD i []).getD j 0) ≤ 60000000 := fun k hk => by
    by_cases h0 : (Go.Ear.trK m data k).o.length = 0
    · exact cn_nil h0
    · exact cn_of (t := Go.Ear.trK m data k) (fun k' i h => wh_fw (t := Go.Ear.trK m data k) w hv pos (hFk k hk) hE k' i h) (fun k' i h => wh_bw (t := Go.Ear.trK m data k) w hv pos (hFk k hk) hE k' i h) (wh_lk (t := Go.Ear.trK m data k) w hv pos (hFk k hk) hE) hw (hFk k hk) (by omega) hE1 e2
  have hall : ∀ k i j, k < data.length → bq ((allT m data k).start.getD i 0) ≤ 70000000 ∧ bq ((allT m data k).fin.getD i 0) ≤ 70000000 ∧ bq (((allT m data k).move.getD i []).getD j 0) ≤ 70000000 ∧ bq (((allT m data k).say.getD i []).getD j 0) ≤ 70000000 := fun k i j hk => by
    have hp := lP_pos (data := data) w nn pos.1 pos.2.1 pos.2.2 k
    have hz := lP_sz (data := data) w hv hF k (by omega)
    have hle := all_le nn tok hF k (by omega) i j
    have hnn := all_nn (m := m) (data := data) nn k i j
    have hwh := all_wh (data := data) w nn k i j
    have hB : 0 < F * k + 1 := by omega
    have hB2 : sz (F * k + 1) ≤ 1 := sz_lt32 (by have := Nat.mul_le_mul_left F (show k ≤ D - 1 by omega); have : F * D = F * (D - 1) + F := by rw [← Nat.mul_succ]; congr 1; omega
                                                 by_cases hF0 : F = 0
                                                 · subst hF0; omega
                                                 · omega)
    have hup : ∀ {q : Rat}, q ≤ ((F * k : Nat) : Rat) → q ≤ ((F * k + 1 : Nat) : Rat) := fun {q} h => Rat.le_trans h (Rat.natCast_le_natCast.2 (Nat.le_succ _))
    have hkE : 1 + k * (sz a + F * (sz b + sz c) + 2) ≤ 1 + D * E := Nat.add_le_add_left (Nat.mul_le_mul (by omega) hE) 1
    refine ⟨?_, ?_, ?_, ?_⟩
    · have := hwh.1.bqB hp hB hnn.1 (hup hle.1); omega
    · have := hwh.2.1.bqB hp hB hnn.2.1 (hup hle.2.1); omega
    · have := hwh.2.2.1.bqB hp hB hnn.2.2.1 (hup hle.2.2.1); omega
    · have := hwh.2.2.2.bqB hp hB hnn.2.2.2 (hup hle.2.2.2); omega
  exact ⟨hx.1, mb, by omega, ⟨by omega, by omega⟩, tok, fun k hk k' i h => Nat.le_trans (wh_fw (t := Go.Ear.trK m data k) w hv pos (hFk k hk) hE k' i h) e1, fun k hk k' i h => Nat.le_trans (wh_bw (t := Go.Ear.trK m data k) w hv pos (hFk k hk) hE k' i h) e1, fun k hk => (hcn k hk).1,
    fun k i hk => by have := (hall k i 0 hk).1; have := ((hcn k hk).2 i 0).1; omega, fun k i hk => by have := (hall k i 0 hk).2.1; have := ((hcn k hk).2 i 0).2.1; omega,
    fun k i j hk => by have := (hall k i j hk).2.2.1; have := ((hcn k hk).2 i j).2.2.1; omega, fun k i j hk => by have := (hall k i j hk).2.2.2; have := ((hcn k hk).2 i j).2.2.2; omega⟩
end Go.E3
set_option linter.unusedVariables false
set_option maxRecDepth 20000
namespace Go.E3
open Go Go.Ear Go.Proofs
structure Rec (m : Md) (a b c W R : Nat) : Prop where
  v : validM m = true
  l : longM m = false
  w : WhM m a b c
  p : 0 < a ∧ 0 < b ∧ 0 < c
  W : MdW W m
  R : RwM R m
theorem shr_bq {L d K : Nat} {x : List Rat} {b : List Fr} (hx : ∀ i, 0 ≤ x.getD i 0) (hw : ∀ i, Wh L (x.getD i 0)) (hL : 0 < L) (hd : 0 < d) (hb : ∀ i, Wh d (b.getD i fr0).rat) (h01 : ∀ i, 0 ≤ (b.getD i fr0).rat ∧ (b.getD i fr0).rat ≤ 1) (hK : sz (rD L d x) ≤ K) (i : Nat) : bq ((shrQ (x.map frK) b).getD i 0) ≤ K := by
  have h1 := rD_wh (b := b) hx hw i hb
  have h2 := shr_01 (b := b) hx h01 i
  exact Nat.le_trans (h1.bq (rD_pos hx hw hL hd) h2.1 h2.2) hK
theorem shr_wts {x : List Rat} {b : List Fr} {K N R l : Nat} (hx : ∀ i, 0 ≤ x.getD i 0) (hb : ∀ i, bq ((shrQ (x.map frK) b).getD i 0) ≤ K) (hn : nz x ≤ N) (hl : x.length ≤ l) (hR : wts ((ratsL b).map frK) ≤ R) (hR2 : 2 * l + N * K ≤ R) : wts ((shrQ (x.map frK) b).map frK) ≤ R := by
  by_cases h : sumR x = 0
  · rw [shr_K hx, if_pos h]; exact hR
  · have h1 := wts_few hb (Nat.le_trans (shr_nz (b := b) hx h) hn)
    have h2 : (shrQ (x.map frK) b).length = x.length := by rw [shr_K hx, if_neg h, List.length_map]
    rw [h2] at h1
    omega
theorem wts_rats {l : List Fr} (f : FtS l) : wts ((ratsL l).map frK) ≤ wts l := wts_copy f.bq
theorem lv_01 {m : Md} (hv : validM m = true) {i : Nat} (hi : i < m.start.length) (j : Nat) : 0 ≤ ((lvM m i).getD j fr0).rat ∧ ((lvM m i).getD j fr0).rat ≤ 1 := by
  have nn := Nn.of hv
  have hr := (valid_row hv hi).1
  rw [lvM_at]
  split
  · exact ⟨nn.mv i j, mv_le1 hv hi (by omega)⟩
  · split
    · exact ⟨nn.fi i, fi_le1 hv hi⟩
    · exact ⟨Rat.le_refl, by decide +kernel⟩
theorem lv_wh {m : Md} {a b c : Nat} (w : WhM m a b c) (i j : Nat) : Wh b ((lvM m i).getD j fr0).rat := by
  rw [lvM_at]
  split
  · exact w.mv i j
  · split
    · exact w.fi i
    · exact Wh.zero _
theorem st_01 {m : Md} (hv : validM m = true) (i : Nat) : 0 ≤ (m.start.getD i fr0).rat ∧ (m.start.getD i fr0).rat ≤ 1 := by
  have nn := Nn.of hv
  refine ⟨nn.st i, ?_⟩
  by_cases hi : i < m.start.length
  · rw [← (Ones.of hv).st]; exact sumTo_one (fun j _ => nn.st j) hi
  · rw [List.getD_eq_getElem?_getD, List.getElem?_eq_none (by omega)]
    show fr0.rat ≤ 1; decide +kernel
theorem wts_bd {l : List Rat} {B : Nat} (h : ∀ i, bq (l.getD i 0) ≤ B) : wts (l.map frK) ≤ (B + 1) * l.length := by
  have := wts_leB (B := B) (l := l.map frK) fun f hf => by
    obtain ⟨q, hq, rfl⟩ := List.mem_map.1 hf
    obtain ⟨i, hi, rfl⟩ := List.getElem_of_mem hq
    have := h i
    rw [List.getD_eq_getElem?_getD, List.getElem?_eq_getElem hi] at this
    rw [bf_frK]; exact this
  rw [List.length_map] at this; exact this
def nA (m : Md) (data : List (List Int)) (a b c : Nat) : Nat := rD (lP m data a b c data.length) a (cntD m data).start
def nB (m : Md) (data : List (List Int)) (a b c : Nat) : Nat := prN (fun i => rD (lP m data a b c data.length) b (lvT (cntD m data) i)) m.start.length
def nC (m : Md) (data : List (List Int)) (a b c : Nat) : Nat := prN (fun i => rD (lP m data a b c data.length) c ((cntD m data).say.getD i [])) m.start.length
section
variable {m : Md} {data : List (List Int)} {a b c W R F D E K S : Nat} (r : Rec m a b c W R) (tok : ∀ k, k < data.length → TOk (Go.Ear.trK m data k)) (hF : ∀ o ∈ data, o.length ≤ F) (hD : data.length ≤ D) (hE : sz a + F * (sz b + sz c) + 2 ≤ E) (hK : 2 + D * E ≤ K) (hS : m.start.length ≤ S) (h32 : F * D < 4294967296)
include r tok hF hD hE hK hS h32
theorem next_sz : sz (nA m data a b c) ≤ max (sz a) K ∧ (∀ i, sz (rD (lP m data a b c data.length) b (lvT (cntD m data) i)) ≤ max (sz b) K) ∧ (∀ i, sz (rD (lP m data a b c data.length) c ((cntD m data).say.getD i [])) ≤ max (sz c) K) := by
  have nn := Nn.of r.v
  have hn := all_nn (m := m) (data := data) nn data.length
  have hw := all_wh (data := data) r.w nn data.length
  have hs := row_sums nn tok hF data.length (Nat.le_refl _)
  have hz := lP_sz (data := data) r.w r.v hF data.length (Nat.le_refl _)
  have hkE : 1 + data.length * (sz a + F * (sz b + sz c) + 2) ≤ 1 + D * E := Nat.add_le_add_left (Nat.mul_le_mul hD hE) 1
  have hB : sz (F * data.length) ≤ 1 := sz_lt32 (Nat.lt_of_le_of_lt (Nat.mul_le_mul_left F hD) h32)
  refine ⟨?_, fun i => ?_, fun i => ?_⟩
  · have := rD_sz (L := lP m data a b c data.length) (d := a) (x := (cntD m data).start) (fun i => (hn i 0).1) (fun i => (hw i 0).1) (hs 0).1
    unfold nA; omega
  · have := rD_sz (L := lP m data a b c data.length) (d := b) (x := lvT (cntD m data) i) (lvT_nn hn i) (lvT_wh hw i) (hs i).2.1
    omega
  · have := rD_sz (L := lP m data a b c data.length) (d := c) (x := (cntD m data).say.getD i []) (fun j => (hn i j).2.2.2) (fun j => (hw i j).2.2.2) (hs i).2.2
    omega
theorem cnt_rw (hk : 1 ≤ K) {R2 : Nat} (h1 : (K + 1) * S ≤ R2) (h2 : 2 * 64 + D * F * K ≤ R2) : RwC R2 m (cntK (cntD m data)) := by
  have hv := r.v
  have nn := Nn.of hv
  have hn := all_nn (m := m) (data := data) nn data.length
  have hw := all_wh (data := data) r.w nn data.length
  have hs := all_le nn tok hF data.length (Nat.le_refl _)
  have hp := lP_pos (data := data) r.w nn r.p.1 r.p.2.1 r.p.2.2 data.length
  have hz := lP_sz (data := data) r.w hv hF data.length (Nat.le_refl _)
  have hkE : 1 + data.length * (sz a + F * (sz b + sz c) + 2) ≤ 1 + D * E := Nat.add_le_add_left (Nat.mul_le_mul hD hE) 1
  have hl := allT_len m data data.length
  have hr := allT_row' m data data.length
  have hnz := nz_all (m := m) hF (data := data)
  have hB : sz (F * data.length) ≤ 1 := sz_lt32 (Nat.lt_of_le_of_lt (Nat.mul_le_mul_left F hD) h32)
  have h0 : bq (0 : Rat) = 1 := bq_zero
  have hq : ∀ {q : Rat}, Wh (lP m data a b c data.length) q → 0 ≤ q → q ≤ ((F * data.length : Nat) : Rat) → bq q ≤ K := fun {q} x y z => by
    by_cases hb : 0 < F * data.length
    · have := x.bqB hp hb y z; omega
    · have e : F * data.length = 0 := by omega
      rw [e] at z
      have : q = 0 := by
        have z' : q ≤ 0 := z
        grind
      rw [this]; omega
  have hy : symb m ≤ 64 := by
    have := r.l
    unfold longM at this
    simp only [Bool.or_eq_false_iff, decide_eq_false_iff_not, Bool.and_eq_false_iff] at this
    have := valid_len hv
    omega
  have hwt : ∀ {l : List Rat}, (∀ i, bq (l.getD i 0) ≤ K) → l.length ≤ S → wts (l.map frK) ≤ R2 := fun {l} hb hn => by
    have := wts_bd hb
    have := Nat.mul_le_mul_left (K + 1) hn
    omega
  have hnz' : ∀ i, nz ((cntD m data).say.getD i []) ≤ D * F := fun i => Nat.le_trans (hnz i data.length (Nat.le_refl _)) (Nat.mul_le_mul_right F hD)
  refine ⟨?_, ?_, ?_, fun i hi => ⟨?_, ?_⟩, fun i hi => ⟨?_, ?_⟩⟩
  · show ((cntD m data).start.map frK).length = _ ∧ ((cntD m data).move.map _).length = _ ∧ ((cntD m data).fin.map frK).length = _ ∧ ((cntD m data).say.map _).length = _
    rw [List.length_map, List.length_map, List.length_map, List.length_map]
    unfold cntD
    exact ⟨hl.1, hl.2.2.1, hl.2.1, hl.2.2.2.1⟩
  · exact hwt (fun i => hq (hw i 0).1 (hn i 0).1 (hs i 0).1) (by unfold cntD; omega)
  · exact hwt (fun i => hq (hw i 0).2.1 (hn i 0).2.1 (hs i 0).2.1) (by unfold cntD; omega)
  · show (((cntD m data).move.map (·.map frK)).getD i []).length = _
    rw [getD_KR, List.length_map]; exact (hr i hi).1
  · show wts (((cntD m data).move.map (·.map frK)).getD i []) ≤ _
    rw [getD_KR]
    exact hwt (fun j => hq (hw i j).2.2.1 (hn i j).2.2.1 (hs i j).2.2.1) (by have := (hr i hi).1; unfold cntD; omega)
  · rw [sy_K, List.length_map, (valid_row hv hi).2.1]; exact (hr i hi).2
  · rw [sy_K]
    have h3 := wts_few (K := K) (l := (cntD m data).say.getD i []) (fun j => hq (hw i j).2.2.2 (hn i j).2.2.2 (hs i j).2.2.2) (hnz' i)
    have h4 : ((cntD m data).say.getD i []).length = symb m := (hr i hi).2
    rw [h4] at h3
    omega
theorem Rec.ree [ft : FtM m] (hk : sz a ≤ K ∧ sz b ≤ K ∧ sz c ≤ K) {R' : Nat} (h0 : R ≤ R') (h1 : (K + 1) * (S + 1) ≤ R') (h2 : 2 * 64 + D * F * K ≤ R') : Rec (reeM m (cntK (cntD m data))) (nA m data a b c) (nB m data a b c) (nC m data a b c) K R' ∧ sz (nA m data a b c) ≤ K ∧ sz (nB m data a b c) ≤ 1 + S * K ∧ sz (nC m data a b c) ≤ 1 + S * K := by
  have hv := r.v
  have nn := Nn.of hv
  have hn := all_nn (m := m) (data := data) nn data.length
  have hw := all_wh (data := data) r.w nn data.length
  have hp := lP_pos (data := data) r.w nn r.p.1 r.p.2.1 r.p.2.2 data.length
  have hns := next_sz r tok hF hD hE hK hS h32
  have hl := allT_len m data data.length
  have hr := allT_row' m data data.length
  have hnz := nz_all (m := m) hF (data := data)
  have hnz' : ∀ i, nz ((cntD m data).say.getD i []) ≤ D * F := fun i => Nat.le_trans (hnz i data.length (Nat.le_refl _)) (Nat.mul_le_mul_right F hD)
  have hK1 : 1 ≤ K := by omega
  have hy : 1 ≤ symb m ∧ symb m ≤ 64 ∧ m.start.length ≤ 40 := by
    have := r.l
    unfold longM at this
    simp only [Bool.or_eq_false_iff, decide_eq_false_iff_not, Bool.and_eq_false_iff] at this
    have h1 := valid_len hv
    have h2 := valid_row hv (show 0 < m.start.length by omega)
    omega
  have rc := cnt_rw r tok hF hD hE hK hS h32 hK1 (R2 := R') (by have := Nat.mul_le_mul_left (K + 1) (show S ≤ S + 1 by omega); omega) h2
  have rm : RwM R' m := ⟨r.R.n, r.R.l, Nat.le_trans r.R.s h0, Nat.le_trans r.R.f h0, fun i hi => ⟨(r.R.mv i hi).1, Nat.le_trans (r.R.mv i hi).2 h0⟩, fun i hi => ⟨(r.R.y i hi).1, Nat.le_trans (r.R.y i hi).2 h0⟩⟩
  have vk := (ree_ok (c := cntK (cntD m data)) ft inferInstance hv r.l rm rc).1
  have b1 : ∀ i, bq ((shrQ (cntK (cntD m data)).start m.start).getD i 0) ≤ K := shr_bq (L := lP m data a b c data.length) (d := a) (x := (cntD m data).start) (fun i => (hn i 0).1) (fun i => (hw i 0).1) hp r.p.1 r.w.st (st_01 hv) (by have := hns.1; unfold nA at this; omega)
  have b2 : ∀ i j, i < m.start.length → bq ((shrQ (lvC (cntK (cntD m data)) i) (lvM m i)).getD j 0) ≤ K := fun i j hi => by
    rw [lvC_K]
    exact shr_bq (L := lP m data a b c data.length) (d := b) (lvT_nn hn i) (lvT_wh hw i) hp r.p.2.1 (lv_wh r.w i) (lv_01 hv hi) (Nat.le_trans (hns.2.1 i) (Nat.max_le.2 ⟨hk.2.1, Nat.le_refl K⟩)) j
  have b3 : ∀ i j, i < m.start.length → bq ((shrQ ((cntK (cntD m data)).say.getD i []) (m.say.getD i [])).getD j 0) ≤ K := fun i j hi => by
    rw [sy_K]
    exact shr_bq (L := lP m data a b c data.length) (d := c) (fun j => (hn i j).2.2.2) (fun j => (hw i j).2.2.2) hp r.p.2.2 (r.w.sy i) (fun j => ⟨nn.sy i j, sy_le1 hv hi j⟩) (Nat.le_trans (hns.2.2 i) (Nat.max_le.2 ⟨hk.2.2, Nat.le_refl K⟩)) j
  have hwt : ∀ {l : List Rat}, (∀ i, bq (l.getD i 0) ≤ K) → l.length ≤ S + 1 → wts (l.map frK) ≤ R' := fun {l} hb hn => by
    have := wts_bd hb
    have := Nat.mul_le_mul_left (K + 1) hn
    omega
  have hlen := ch_out (n := m.start.length) (s := shrQ (cntK (cntD m data)).start m.start) (l := fun i => shrQ (lvC (cntK (cntD m data)) i) (lvM m i)) (y := fun i => shrQ ((cntK (cntD m data)).say.getD i []) (m.say.getD i [])) fun i hi => shrQ_len (rc.lv hi).1 (rm.lv hi).1
  refine ⟨⟨vk.valid, vk.long hy.2.2 hy.2.1, ⟨fun i => ?_, fun i j => ?_, fun i => ?_, fun i x => ?_⟩, ⟨?_, ?_, ?_⟩, chM_W hK1 b1 b2 b3, ⟨?_, ?_, ?_, ?_, fun i hi => ⟨?_, ?_⟩, fun i hi => ⟨?_, ?_⟩⟩⟩, ?_, ?_, ?_⟩
  · rw [ch_st]
    exact rD_wh (L := lP m data a b c data.length) (x := (cntD m data).start) (fun i => (hn i 0).1) (fun i => (hw i 0).1) i r.w.st
  · by_cases hi : i < m.start.length
    · by_cases hj : j < m.start.length
      · rw [ch_mv hi hj, lvC_K]
        exact (rD_wh (L := lP m data a b c data.length) (lvT_nn hn i) (lvT_wh hw i) j (lv_wh r.w i)).of_dvd (prN_dvd _ hi)
      · rw [hlen.2 i j hi (by omega)]; exact Wh.zero _
    · rw [(hlen.1 i j (by omega)).1]; exact Wh.zero _
  · by_cases hi : i < m.start.length
    · rw [ch_fi hi, lvC_K]
      exact (rD_wh (L := lP m data a b c data.length) (lvT_nn hn i) (lvT_wh hw i) _ (lv_wh r.w i)).of_dvd (prN_dvd _ hi)
    · rw [(hlen.1 i 0 (by omega)).2.1]; exact Wh.zero _
  · by_cases hi : i < m.start.length
    · rw [ch_sy hi, sy_K]
      exact (rD_wh (L := lP m data a b c data.length) (fun j => (hn i j).2.2.2) (fun j => (hw i j).2.2.2) x (r.w.sy i)).of_dvd (prN_dvd _ hi)
    · rw [(hlen.1 i x (by omega)).2.2]; exact Wh.zero _
  · exact rD_pos (fun i => (hn i 0).1) (fun i => (hw i 0).1) hp r.p.1
  · exact prN_pos _ fun i _ => rD_pos (lvT_nn hn i) (lvT_wh hw i) hp r.p.2.1
  · exact prN_pos _ fun i _ => rD_pos (fun j => (hn i j).2.2.2) (fun j => (hw i j).2.2.2) hp r.p.2.2
  · show 1 ≤ (List.map frK _).length ∧ (List.map frK _).length ≤ 40
    rw [List.length_map, vk.l.1]; exact ⟨vk.n1, hy.2.2⟩
  · show (List.map _ _).length = (List.map frK _).length ∧ (List.map frK _).length = (List.map frK _).length ∧ (List.map _ _).length = (List.map frK _).length
    simp only [List.length_map, List.length_range, vk.l.1, and_self]
  · exact hwt b1 (by rw [vk.l.1]; omega)
  · exact hwt (fun i => by
      by_cases hi : i < m.start.length
      · rw [range_getD _ _ hi]; exact b2 i _ hi
      · rw [List.getD_eq_getElem?_getD, List.getElem?_eq_none (by simp; omega)]; show bq (0 : Rat) ≤ K; rw [bq_zero]; omega) (by simp; omega)
  · show ((((List.range m.start.length).map fun i => (shrQ (lvC (cntK (cntD m data)) i) (lvM m i)).take m.start.length).map (·.map frK)).getD i []).length = (List.map frK _).length
    rw [getD_KR, List.length_map, List.length_map, vk.l.1]
    exact (vk.r i (by have : i < (List.map frK (shrQ (cntK (cntD m data)).start m.start)).length := hi; rw [List.length_map, vk.l.1] at this; exact this)).1
  · have hi' : i < m.start.length := by have : i < (List.map frK (shrQ (cntK (cntD m data)).start m.start)).length := hi; rw [List.length_map, vk.l.1] at this; exact this
    show wts ((((List.range m.start.length).map fun i => (shrQ (lvC (cntK (cntD m data)) i) (lvM m i)).take m.start.length).map (·.map frK)).getD i []) ≤ R'
    rw [getD_KR, range_getD _ _ hi']
    refine hwt (fun j => ?_) (by rw [List.length_take]; omega)
    rw [List.getD_eq_getElem?_getD, List.getElem?_take]
    split
    · rw [← List.getD_eq_getElem?_getD]; exact b2 i j hi'
    · show bq (0 : Rat) ≤ K; rw [bq_zero]; omega
  · have hi' : i < m.start.length := by have : i < (List.map frK (shrQ (cntK (cntD m data)).start m.start)).length := hi; rw [List.length_map, vk.l.1] at this; exact this
    show 1 ≤ ((((List.range m.start.length).map fun i => shrQ ((cntK (cntD m data)).say.getD i []) (m.say.getD i [])).map (·.map frK)).getD i []).length
    rw [getD_KR, List.length_map, (vk.r i hi').2]; exact vk.k1
  · have hi' : i < m.start.length := by have : i < (List.map frK (shrQ (cntK (cntD m data)).start m.start)).length := hi; rw [List.length_map, vk.l.1] at this; exact this
    show wts ((((List.range m.start.length).map fun i => shrQ ((cntK (cntD m data)).say.getD i []) (m.say.getD i [])).map (·.map frK)).getD i []) ≤ R'
    rw [getD_KR, range_getD _ _ hi']
    have b3' := fun j => b3 i j hi'
    rw [sy_K] at b3' ⊢
    exact shr_wts (fun j => (hn i j).2.2.2) b3' (hnz' i) (l := 64) (by have := (hr i hi').2; unfold cntD; omega) (Nat.le_trans (wts_rats inferInstance) (rm.y i hi').2) h2
  · have := hns.1; omega
  · exact Nat.le_trans (prN_sz m.start.length fun i _ => by have := hns.2.1 i; exact Nat.le_trans this (by omega)) (Nat.add_le_add_left (Nat.mul_le_mul_right K hS) 1)
  · exact Nat.le_trans (prN_sz m.start.length fun i _ => by have := hns.2.2 i; exact Nat.le_trans this (by omega)) (Nat.add_le_add_left (Nat.mul_le_mul_right K hS) 1)
end
end Go.E3
