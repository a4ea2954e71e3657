/- P4: a part of the proofs about package model: how the program's functions run, and what they compute, for every input. -/
import Derived.Test.YtpmndikbfalfoaaGreatK9
set_option linter.all false
set_option linter.unusedVariables false
namespace Go.Ear
theorem sumTo_mulc (c : Rat) (q : Nat → Rat) : ∀ n, sumTo (fun i => q i * c) n = sumTo q n * c
  | 0 => by show (0 : Rat) = 0 * c; rw [Rat.zero_mul]
  | n + 1 => by rw [sumTo_succ, sumTo_succ, sumTo_mulc c q n, Rat.add_mul]
theorem sumTo_divc (c : Rat) (q : Nat → Rat) (n : Nat) : sumTo (fun i => q i / c) n = sumTo q n / c := by
  rw [Rat.div_def, ← sumTo_mulc]; exact sumTo_congr n fun i _ => Rat.div_def _ _
theorem sumTo_plus (q p : Nat → Rat) : ∀ n, sumTo (fun i => q i + p i) n = sumTo q n + sumTo p n
  | 0 => by exact (Rat.add_zero 0).symm
  | n + 1 => by rw [sumTo_succ, sumTo_succ, sumTo_succ, sumTo_plus q p n]; grind
theorem inv_nn {q : Rat} (h : 0 ≤ q) : 0 ≤ q⁻¹ := by
  by_cases e : q = 0
  · rw [e, Rat.inv_zero]; exact Rat.le_refl
  · exact Rat.le_of_lt (Rat.inv_pos.2 (by grind))
theorem sumTo_none {q : Nat → Rat} {n : Nat} (h : ∀ i, i < n → q i = 0) : sumTo q n = 0 := (sumTo_congr n h).trans (sumTo_zero n)
theorem sumTo_swap (q : Nat → Nat → Rat) (k : Nat) : ∀ n, sumTo (fun i => sumTo (q i) k) n = sumTo (fun j => sumTo (fun i => q i j) n) k
  | 0 => by show (0 : Rat) = _; exact (sumTo_zero k).symm
  | n + 1 => by
    rw [sumTo_succ, sumTo_swap q k n, ← sumTo_plus]; rfl
theorem sumTo_all1 : ∀ {n : Nat} {q : Nat → Rat}, (∀ i, i < n → q i = 1) → sumTo q n = ((n : Nat) : Rat)
  | 0, _, _ => rfl
  | n + 1, q, h => by rw [sumTo_succ, sumTo_all1 fun i hi => h i (by omega), h n (by omega)]; exact (Rat.natCast_add n 1).symm
def postR (t : Tr) (k : Nat) : List Rat := (List.range t.m.start.length).map fun i => pY t i k
def postT (t : Tr) : List (List Rat) := (List.range t.o.length).map (postR t)
def postE (m : Md) (o : List Int) : Int := if checkE [m] [o] ≠ 0 then checkE [m] [o] else if lk ⟨m, o⟩ = 0 then 7 else 0
def postM (m : Md) (o : List Int) : List (List Rat) := if postE m o = 0 then postT ⟨m, o⟩ else []
theorem postR_len (t : Tr) (k : Nat) : (postR t k).length = t.m.start.length := by simp [postR]
theorem postT_len (t : Tr) : (postT t).length = t.o.length := by simp [postT]
theorem postT_at {t : Tr} {k : Nat} (h : k < t.o.length) : (postT t).getD k [] = postR t k := range_getD _ _ h
theorem sum_pY {t : Tr} (h : lk t ≠ 0) {k : Nat} (hk : k < t.o.length) : sumTo (fun i => pY t i k) t.m.start.length = 1 := by
  unfold pY
  rw [sumTo_divc, lk_both' hk]
  rw [Rat.div_def, Rat.mul_inv_cancel _ h]
theorem sum_pS {t : Tr} (h : lk t ≠ 0) (hk : 0 < t.o.length) : sumTo (pS t) t.m.start.length = 1 := by
  have := sum_pY h hk
  exact this
theorem sum_pE {t : Tr} (h : lk t ≠ 0) (hk : 0 < t.o.length) : sumTo (pE t) t.m.start.length = 1 := by
  unfold pE
  rw [sumTo_divc, ← lk_fwd hk]
  rw [Rat.div_def, Rat.mul_inv_cancel _ h]
theorem sum_wM {t : Tr} {i k : Nat} (hk : k + 1 < t.o.length) (hi : i < t.m.start.length) : sumTo (wM t i k) t.m.start.length = (fwd t k).getD i 0 * (bwd t (t.o.length - 1 - k)).getD i 0 := by
  have h : (bwd t (t.o.length - 1 - k)).getD i 0 = sumTo (fun j => moveT t i j * sayT t j (k + 1) * (bwd t (t.o.length - 1 - (k + 1))).getD j 0) t.m.start.length := by
    have := bwd_succ (t := t) (i := i) (k := t.o.length - 1 - (k + 1)) hi
    rw [show t.o.length - 1 - (k + 1) + 1 = t.o.length - 1 - k by omega, show t.o.length - 1 - (t.o.length - 1 - (k + 1)) = k + 1 by omega] at this
    exact this.symm
  rw [h, Rat.mul_comm, ← sumTo_mulc]
  refine sumTo_congr _ fun j _ => ?_
  unfold wM; grind
theorem sum_pM {t : Tr} (h : lk t ≠ 0) {k : Nat} (hk : k + 1 < t.o.length) : sumTo (fun i => sumTo (pM t i k) t.m.start.length) t.m.start.length = 1 := by
  rw [← sum_pY h (show k < t.o.length by omega)]
  refine sumTo_congr _ fun i hi => ?_
  show sumTo (fun j => wM t i k j / lk t) _ = _
  rw [sumTo_divc, sum_wM hk hi]; rfl
theorem getD_K' (l : List Rat) (i : Nat) : ((l.map frK).getD i fr0).rat = l.getD i 0 := by
  rw [List.getD_eq_getElem?_getD, List.getElem?_map, List.getD_eq_getElem?_getD]
  cases l[i]? with
  | none => show fr0.rat = 0; decide +kernel
  | some q => exact frK_rat q
def sumR (l : List Rat) : Rat := sumTo (fun i => l.getD i 0) l.length
def sumX (l : List (List Rat)) : Rat := sumTo (fun i => sumR (l.getD i [])) l.length
theorem sumF_K (l : List Rat) : sumF (l.map frK) = sumR l := by
  rw [sumF_sum, List.length_map]; exact sumTo_congr _ fun i _ => getD_K' l i
theorem pY_nn {t : Tr} (nn : Nn t.m) (i k : Nat) : 0 ≤ pY t i k := by
  unfold pY; rw [Rat.div_def]
  exact Rat.mul_nonneg (Rat.mul_nonneg (fwd_nn nn _ _) (bwd_nn nn _ _)) (inv_nn (lk_nn nn))
theorem sumR_range (f : Nat → Rat) (n : Nat) : sumR ((List.range n).map f) = sumTo f n := by
  unfold sumR; rw [List.length_map, List.length_range]; exact sumTo_congr n fun i hi => range_getD _ _ hi
theorem post_dist {t : Tr} (nn : Nn t.m) (h : lk t ≠ 0) {k : Nat} (hk : k < t.o.length) : distF ((postR t k).map frK) = true := by
  rw [dist_iff]
  refine ⟨fun i => ?_, ?_⟩
  · rw [getD_K']
    by_cases hi : i < t.m.start.length
    · rw [postR, range_getD _ _ hi]; exact pY_nn nn _ _
    · rw [List.getD_eq_getElem?_getD, List.getElem?_eq_none (by rw [postR_len]; omega)]; exact Rat.le_refl
  · rw [sumF_K, postR, sumR_range]; exact sum_pY h hk
theorem sumR_addR {a b : List Rat} (h : b.length = a.length) : sumR (addR a b) = sumR a + sumR b := by
  rw [addR, sumR_range, sumTo_plus]; unfold sumR; rw [h]
theorem sumX_addM {a b : List (List Rat)} (h : b.length = a.length) (hr : ∀ i, i < a.length → (b.getD i []).length = (a.getD i []).length) : sumX (addM a b) = sumX a + sumX b := by
  unfold sumX
  rw [addM_len, h, ← sumTo_plus]
  refine sumTo_congr _ fun i hi => ?_
  rw [← addM_at hi, sumR_addR (hr i hi)]
theorem sumR_set {l : List Rat} {x : Nat} {q : Rat} (hx : x < l.length) : sumR (l.set x (l.getD x 0 + q)) = sumR l + q := by
  unfold sumR
  rw [List.length_set]
  have key : ∀ n, sumTo (fun i => (l.set x (l.getD x 0 + q)).getD i 0) n = sumTo (fun i => l.getD i 0) n + (if x < n then q else 0) := by
    intro n
    induction n with
    | zero => show (0 : Rat) = 0 + _; rw [if_neg (by omega), Rat.add_zero]
    | succ n ih =>
      rw [sumTo_succ, sumTo_succ, ih]
      by_cases e : x = n
      · subst e; rw [getD_set_is hx, if_neg (by omega), if_pos (by omega)]; grind
      · rw [getD_set_ne' e]
        by_cases e2 : x < n
        · rw [if_pos e2, if_pos (by omega)]; grind
        · rw [if_neg e2, if_neg (by omega)]; grind
  rw [key, if_pos hx]
theorem sumR_rep (n : Nat) : sumR (List.replicate n 0) = 0 := by
  unfold sumR
  refine sumTo_none fun i _ => ?_
  rw [List.getD_eq_getElem?_getD, List.getElem?_replicate]; split <;> rfl
theorem sum_sayRow {t : Tr} (ok : TOk t) (i : Nat) : ∀ k, k ≤ t.o.length → sumR (sayRow t i k) = sumTo (fun k => pY t i k) k
  | 0, _ => sumR_rep _
  | k + 1, h => by
    rw [sayRow, sumR_set (by rw [sayRow_len]; exact (ok.sy0 (k := k) (by omega)).2), sum_sayRow ok i k (by omega)]; rfl
theorem sum_mvRow {t : Tr} (i : Nat) : ∀ k, sumR (mvRow t i k) = sumTo (fun k => sumTo (pM t i k) t.m.start.length) k
  | 0 => sumR_rep _
  | k + 1 => by
    rw [mvRow, sumR_range, sumTo_plus, sumTo_succ, ← sum_mvRow i k]; unfold sumR; rw [mvRow_len]
theorem sum_cntS {t : Tr} (h : lk t ≠ 0) : sumR (cntS t) = 1 := by unfold cntS; rw [sumR_range]; exact sum_pS h (lk_pos h)
theorem sum_cntE {t : Tr} (h : lk t ≠ 0) : sumR (cntE t) = 1 := by unfold cntE; rw [sumR_range]; exact sum_pE h (lk_pos h)
theorem sumX_range (f : Nat → List Rat) (n : Nat) : sumX ((List.range n).map f) = sumTo (fun i => sumR (f i)) n := by
  unfold sumX; rw [List.length_map, List.length_range]; exact sumTo_congr n fun i hi => by rw [range_getD _ _ hi]
theorem sum_cntY {t : Tr} (ok : TOk t) (h : lk t ≠ 0) : sumX (cntY t) = ((t.o.length : Nat) : Rat) := by
  unfold cntY
  rw [sumX_range, sumTo_congr (q' := fun i => sumTo (fun k => pY t i k) t.o.length) _ fun i _ => sum_sayRow ok i _ (Nat.le_refl _), sumTo_swap]
  exact sumTo_all1 fun k hk => sum_pY h hk
theorem sum_cntM {t : Tr} (h : lk t ≠ 0) : sumX (cntM t) = ((t.o.length - 1 : Nat) : Rat) := by
  unfold cntM
  rw [sumX_range, sumTo_congr (q' := fun i => sumTo (fun k => sumTo (pM t i k) t.m.start.length) (t.o.length - 1)) _ fun i _ => sum_mvRow i _, sumTo_swap]
  exact sumTo_all1 fun k hk => sum_pM h (by omega)
def frmT (m : Md) (data : List (List Int)) : Nat → Int
  | 0 => 0
  | k + 1 => if lk (trK m data k) = 0 then frmT m data k else frmT m data k + ((data.getD k []).length : Int)
theorem frm_t {m : Md} {data : List (List Int)} {k : Nat} (h : lk (trK m data k) = 0) : frmT m data (k + 1) = frmT m data k := by rw [frmT]; exact if_pos h
theorem frm_f {m : Md} {data : List (List Int)} {k : Nat} (h : ¬ lk (trK m data k) = 0) : frmT m data (k + 1) = frmT m data k + ((data.getD k []).length : Int) := by rw [frmT]; exact if_neg h
theorem sumX_rep (n k : Nat) : sumX (List.replicate n (List.replicate k 0)) = 0 := by
  unfold sumX
  refine sumTo_none fun i hi => ?_
  rw [List.length_replicate] at hi
  rw [← rep_getD (x := List.replicate k (0 : Rat)) (d := []) hi]; exact sumR_rep k
theorem allT_row' (m : Md) (data : List (List Int)) : ∀ k i, i < m.start.length → ((allT m data k).move.getD i []).length = m.start.length ∧ ((allT m data k).say.getD i []).length = symb m
  | 0, i, hi => by
    rw [allT, ctZ]
    dsimp only
    rw [← rep_getD (x := List.replicate m.start.length (0 : Rat)) (d := []) hi, ← rep_getD (x := List.replicate (symb m) (0 : Rat)) (d := []) hi]; simp
  | k + 1, i, hi => by
    have ih := allT_row' m data k i hi
    have hl := allT_len m data k
    by_cases h : lk (trK m data k) = 0
    · rw [allT_t h]; exact ih
    · rw [allT_f h]; dsimp only
      rw [← addM_at (by omega), ← addM_at (by omega), addR_len, addR_len]; exact ih
theorem all_sums {m : Md} {data : List (List Int)} (ok : ∀ k, k < data.length → TOk (trK m data k)) : ∀ k, k ≤ data.length →
    sumR (allT m data k).start = (((allT m data k).used : Int) : Rat) ∧ sumR (allT m data k).fin = (((allT m data k).used : Int) : Rat) ∧ sumX (allT m data k).say = ((frmT m data k : Int) : Rat) ∧ sumX (allT m data k).move = ((frmT m data k - (allT m data k).used : Int) : Rat)
  | 0, _ => ⟨sumR_rep _, sumR_rep _, sumX_rep _ _, sumX_rep _ _⟩
  | k + 1, hk => by
    have ⟨i1, i2, i3, i4⟩ := all_sums ok k (by omega)
    have hl := allT_len m data k
    by_cases h : lk (trK m data k) = 0
    · rw [allT_t h, frm_t h]; exact ⟨i1, i2, i3, i4⟩
    · have hp : 0 < (trK m data k).o.length := lk_pos h
      have e1 : (trK m data k).o.length = (data.getD k []).length := rfl
      have hr := allT_row' m data k
      rw [allT_f h, frm_f h]
      dsimp only
      refine ⟨?_, ?_, ?_, ?_⟩
      · rw [sumR_addR (by rw [hl.1]; exact cntS_len _), i1, show (cntT (trK m data k)).start = cntS _ from rfl, sum_cntS h, Rat.intCast_add]; rfl
      · rw [sumR_addR (by rw [hl.2.1]; exact cntE_len _), i2, show (cntT (trK m data k)).fin = cntE _ from rfl, sum_cntE h, Rat.intCast_add]; rfl
      · rw [sumX_addM (by rw [hl.2.2.2.1]; exact cntY_len _) (fun i hi => by rw [hl.2.2.2.1] at hi; exact (cntY_row (t := trK m data k) hi).trans (hr i hi).2.symm), i3, show (cntT (trK m data k)).say = cntY _ from rfl, sum_cntY (ok k (by omega)) h, Rat.intCast_add]; rfl
      · rw [sumX_addM (by rw [hl.2.2.1]; exact cntM_len _) (fun i hi => by rw [hl.2.2.1] at hi; exact (cntM_row (t := trK m data k) hi).trans (hr i hi).1.symm), i4, show (cntT (trK m data k)).move = cntM _ from rfl, sum_cntM h, ← Rat.intCast_natCast, ← Rat.intCast_add]
        congr 1; omega
end Go.Ear
