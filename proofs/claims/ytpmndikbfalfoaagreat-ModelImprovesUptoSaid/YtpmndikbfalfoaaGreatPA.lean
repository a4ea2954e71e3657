/- PA: a part of the proofs about package model: how the program's functions run, and what they compute, for every input. -/
import Derived.Test.YtpmndikbfalfoaaGreatK9
set_option linter.all false
set_option linter.unusedVariables false
namespace Go.Ear
theorem sumTo_mulc (c : Rat) (q : Nat → Rat) : ∀ n, sumTo (fun i => q i * c) n = sumTo q n * c
  | 0 => by show (0 : Rat) = 0 * c; rw [Rat.zero_mul]
  | n + 1 => by rw [sumTo_succ, sumTo_succ, sumTo_mulc c q n, Rat.add_mul]
theorem sumTo_divc (c : Rat) (q : Nat → Rat) (n : Nat) : sumTo (fun i => q i / c) n = sumTo q n / c := by
  rw [Rat.div_def, ← sumTo_mulc]; exact sumTo_congr n fun i _ => Rat.div_def _ _
theorem sumTo_plus (q p : Nat → Rat) : ∀ n, sumTo (fun i => q i + p i) n = sumTo q n + sumTo p n
  | 0 => by exact (Rat.add_zero 0).symm
  | n + 1 => by rw [sumTo_succ, sumTo_succ, sumTo_succ, sumTo_plus q p n]; grind
theorem inv_nn {q : Rat} (h : 0 ≤ q) : 0 ≤ q⁻¹ := by
  by_cases e : q = 0
  · rw [e, Rat.inv_zero]; exact Rat.le_refl
  · exact Rat.le_of_lt (Rat.inv_pos.2 (by grind))
theorem sumTo_none {q : Nat → Rat} {n : Nat} (h : ∀ i, i < n → q i = 0) : sumTo q n = 0 := (sumTo_congr n h).trans (sumTo_zero n)
theorem sumTo_swap (q : Nat → Nat → Rat) (k : Nat) : ∀ n, sumTo (fun i => sumTo (q i) k) n = sumTo (fun j => sumTo (fun i => q i j) n) k
  | 0 => by show (0 : Rat) = _; exact (sumTo_zero k).symm
  | n + 1 => by
    rw [sumTo_succ, sumTo_swap q k n, ← sumTo_plus]; rfl
theorem sumTo_all1 : ∀ {n : Nat} {q : Nat → Rat}, (∀ i, i < n → q i = 1) → sumTo q n = ((n : Nat) : Rat)
  | 0, _, _ => rfl
  | n + 1, q, h => by rw [sumTo_succ, sumTo_all1 fun i hi => h i (by omega), h n (by omega)]; exact (Rat.natCast_add n 1).symm
def postR (t : Tr) (k : Nat) : List Rat := (List.range t.m.start.length).map fun i => pY t i k
def postT (t : Tr) : List (List Rat) := (List.range t.o.length).map (postR t)
def postE (m : Md) (o : List Int) : Int := if checkE [m] [o] ≠ 0 then checkE [m] [o] else if lk ⟨m, o⟩ = 0 then 7 else 0
def postM (m : Md) (o : List Int) : List (List Rat) := if postE m o = 0 then postT ⟨m, o⟩ else []
theorem sum_pY {t : Tr} (h : lk t ≠ 0) {k : Nat} (hk : k < t.o.length) : sumTo (fun i => pY t i k) t.m.start.length = 1 := by
  unfold pY
  rw [sumTo_divc, lk_both' hk]
  rw [Rat.div_def, Rat.mul_inv_cancel _ h]
theorem sum_pS {t : Tr} (h : lk t ≠ 0) (hk : 0 < t.o.length) : sumTo (pS t) t.m.start.length = 1 := by
  have := sum_pY h hk
  exact this
theorem sum_pE {t : Tr} (h : lk t ≠ 0) (hk : 0 < t.o.length) : sumTo (pE t) t.m.start.length = 1 := by
  unfold pE
  rw [sumTo_divc, ← lk_fwd hk]
  rw [Rat.div_def, Rat.mul_inv_cancel _ h]
theorem sum_wM {t : Tr} {i k : Nat} (hk : k + 1 < t.o.length) (hi : i < t.m.start.length) : sumTo (wM t i k) t.m.start.length = (fwd t k).getD i 0 * (bwd t (t.o.length - 1 - k)).getD i 0 := by
  have h : (bwd t (t.o.length - 1 - k)).getD i 0 = sumTo (fun j => moveT t i j * sayT t j (k + 1) * (bwd t (t.o.length - 1 - (k + 1))).getD j 0) t.m.start.length := by
    have := bwd_succ (t := t) (i := i) (k := t.o.length - 1 - (k + 1)) hi
    rw [show t.o.length - 1 - (k + 1) + 1 = t.o.length - 1 - k by omega, show t.o.length - 1 - (t.o.length - 1 - (k + 1)) = k + 1 by omega] at this
    exact this.symm
  rw [h, Rat.mul_comm, ← sumTo_mulc]
  refine sumTo_congr _ fun j _ => ?_
  unfold wM; grind
theorem sum_pM {t : Tr} (h : lk t ≠ 0) {k : Nat} (hk : k + 1 < t.o.length) : sumTo (fun i => sumTo (pM t i k) t.m.start.length) t.m.start.length = 1 := by
  rw [← sum_pY h (show k < t.o.length by omega)]
  refine sumTo_congr _ fun i hi => ?_
  show sumTo (fun j => wM t i k j / lk t) _ = _
  rw [sumTo_divc, sum_wM hk hi]; rfl
theorem getD_K' (l : List Rat) (i : Nat) : ((l.map frK).getD i fr0).rat = l.getD i 0 := by
  rw [List.getD_eq_getElem?_getD, List.getElem?_map, List.getD_eq_getElem?_getD]
  cases l[i]? with
  | none => show fr0.rat = 0; decide +kernel
  | some q => exact frK_rat q
def sumR (l : List Rat) : Rat := sumTo (fun i => l.getD i 0) l.length
def sumX (l : List (List Rat)) : Rat := sumTo (fun i => sumR (l.getD i [])) l.length
theorem sumF_K (l : List Rat) : sumF (l.map frK) = sumR l := by
  rw [sumF_sum, List.length_map]; exact sumTo_congr _ fun i _ => getD_K' l i
theorem pY_nn {t : Tr} (nn : Nn t.m) (i k : Nat) : 0 ≤ pY t i k := by
  unfold pY; rw [Rat.div_def]
  exact Rat.mul_nonneg (Rat.mul_nonneg (fwd_nn nn _ _) (bwd_nn nn _ _)) (inv_nn (lk_nn nn))
theorem sumR_range (f : Nat → Rat) (n : Nat) : sumR ((List.range n).map f) = sumTo f n := by
  unfold sumR; rw [List.length_map, List.length_range]; exact sumTo_congr n fun i hi => range_getD _ _ hi
theorem sumR_addR {a b : List Rat} (h : b.length = a.length) : sumR (addR a b) = sumR a + sumR b := by
  rw [addR, sumR_range, sumTo_plus]; unfold sumR; rw [h]
theorem sumX_addM {a b : List (List Rat)} (h : b.length = a.length) (hr : ∀ i, i < a.length → (b.getD i []).length = (a.getD i []).length) : sumX (addM a b) = sumX a + sumX b := by
  unfold sumX
  rw [addM_len, h, ← sumTo_plus]
  refine sumTo_congr _ fun i hi => ?_
  rw [← addM_at hi, sumR_addR (hr i hi)]
theorem sumR_set {l : List Rat} {x : Nat} {q : Rat} (hx : x < l.length) : sumR (l.set x (l.getD x 0 + q)) = sumR l + q := by
  unfold sumR
  rw [List.length_set]
  have key : ∀ n, sumTo (fun i => (l.set x (l.getD x 0 + q)).getD i 0) n = sumTo (fun i => l.getD i 0) n + (if x < n then q else 0) := by
    intro n
    induction n with
    | zero => show (0 : Rat) = 0 + _; rw [if_neg (by omega), Rat.add_zero]
    | succ n ih =>
      rw [sumTo_succ, sumTo_succ, ih]
      by_cases e : x = n
      · subst e; rw [getD_set_is hx, if_neg (by omega), if_pos (by omega)]; grind
      · rw [getD_set_ne' e]
        by_cases e2 : x < n
        · rw [if_pos e2, if_pos (by omega)]; grind
        · rw [if_neg e2, if_neg (by omega)]; grind
  rw [key, if_pos hx]
theorem sumR_rep (n : Nat) : sumR (List.replicate n 0) = 0 := by
  unfold sumR
  refine sumTo_none fun i _ => ?_
  rw [List.getD_eq_getElem?_getD, List.getElem?_replicate]; split <;> rfl
theorem sum_sayRow {t : Tr} (ok : TOk t) (i : Nat) : ∀ k, k ≤ t.o.length → sumR (sayRow t i k) = sumTo (fun k => pY t i k) k
  | 0, _ => sumR_rep _
  | k + 1, h => by
    rw [sayRow, sumR_set (by rw [sayRow_len]; exact (ok.sy0 (k := k) (by omega)).2), sum_sayRow ok i k (by omega)]; rfl
theorem sum_mvRow {t : Tr} (i : Nat) : ∀ k, sumR (mvRow t i k) = sumTo (fun k => sumTo (pM t i k) t.m.start.length) k
  | 0 => sumR_rep _
  | k + 1 => by
    rw [mvRow, sumR_range, sumTo_plus, sumTo_succ, ← sum_mvRow i k]; unfold sumR; rw [mvRow_len]
theorem sum_cntS {t : Tr} (h : lk t ≠ 0) : sumR (cntS t) = 1 := by unfold cntS; rw [sumR_range]; exact sum_pS h (lk_pos h)
theorem sum_cntE {t : Tr} (h : lk t ≠ 0) : sumR (cntE t) = 1 := by unfold cntE; rw [sumR_range]; exact sum_pE h (lk_pos h)
theorem sumX_range (f : Nat → List Rat) (n : Nat) : sumX ((List.range n).map f) = sumTo (fun i => sumR (f i)) n := by
  unfold sumX; rw [List.length_map, List.length_range]; exact sumTo_congr n fun i hi => by rw [range_getD _ _ hi]
theorem sum_cntY {t : Tr} (ok : TOk t) (h : lk t ≠ 0) : sumX (cntY t) = ((t.o.length : Nat) : Rat) := by
  unfold cntY
  rw [sumX_range, sumTo_congr (q' := fun i => sumTo (fun k => pY t i k) t.o.length) _ fun i _ => sum_sayRow ok i _ (Nat.le_refl _), sumTo_swap]
  exact sumTo_all1 fun k hk => sum_pY h hk
theorem sum_cntM {t : Tr} (h : lk t ≠ 0) : sumX (cntM t) = ((t.o.length - 1 : Nat) : Rat) := by
  unfold cntM
  rw [sumX_range, sumTo_congr (q' := fun i => sumTo (fun k => sumTo (pM t i k) t.m.start.length) (t.o.length - 1)) _ fun i _ => sum_mvRow i _, sumTo_swap]
  exact sumTo_all1 fun k hk => sum_pM h (by omega)
def frmT (m : Md) (data : List (List Int)) : Nat → Int
  | 0 => 0
  | k + 1 => if lk (trK m data k) = 0 then frmT m data k else frmT m data k + ((data.getD k []).length : Int)
theorem frm_t {m : Md} {data : List (List Int)} {k : Nat} (h : lk (trK m data k) = 0) : frmT m data (k + 1) = frmT m data k := by rw [frmT]; exact if_pos h
theorem frm_f {m : Md} {data : List (List Int)} {k : Nat} (h : ¬ lk (trK m data k) = 0) : frmT m data (k + 1) = frmT m data k + ((data.getD k []).length : Int) := by rw [frmT]; exact if_neg h
theorem sumX_rep (n k : Nat) : sumX (List.replicate n (List.replicate k 0)) = 0 := by
  unfold sumX
  refine sumTo_none fun i hi => ?_
  rw [List.length_replicate] at hi
  rw [← rep_getD (x := List.replicate k (0 : Rat)) (d := []) hi]; exact sumR_rep k
theorem allT_row' (m : Md) (data : List (List Int)) : ∀ k i, i < m.start.length → ((allT m data k).move.getD i []).length = m.start.length ∧ ((allT m data k).say.getD i []).length = symb m
  | 0, i, hi => by
    rw [allT, ctZ]
    dsimp only
    rw [← rep_getD (x := List.replicate m.start.length (0 : Rat)) (d := []) hi, ← rep_getD (x := List.replicate (symb m) (0 : Rat)) (d := []) hi]; simp
  | k + 1, i, hi => by
    have ih := allT_row' m data k i hi
    have hl := allT_len m data k
    by_cases h : lk (trK m data k) = 0
    · rw [allT_t h]; exact ih
    · rw [allT_f h]; dsimp only
      rw [← addM_at (by omega), ← addM_at (by omega), addR_len, addR_len]; exact ih
theorem all_sums {m : Md} {data : List (List Int)} (ok : ∀ k, k < data.length → TOk (trK m data k)) : ∀ k, k ≤ data.length →
    sumR (allT m data k).start = (((allT m data k).used : Int) : Rat) ∧ sumR (allT m data k).fin = (((allT m data k).used : Int) : Rat) ∧ sumX (allT m data k).say = ((frmT m data k : Int) : Rat) ∧ sumX (allT m data k).move = ((frmT m data k - (allT m data k).used : Int) : Rat)
  | 0, _ => ⟨sumR_rep _, sumR_rep _, sumX_rep _ _, sumX_rep _ _⟩
  | k + 1, hk => by
    have ⟨i1, i2, i3, i4⟩ := all_sums ok k (by omega)
    have hl := allT_len m data k
    by_cases h : lk (trK m data k) = 0
    · rw [allT_t h, frm_t h]; exact ⟨i1, i2, i3, i4⟩
    · have hp : 0 < (trK m data k).o.length := lk_pos h
      have e1 : (trK m data k).o.length = (data.getD k []).length := rfl
      have hr := allT_row' m data k
      rw [allT_f h, frm_f h]
      dsimp only
      refine ⟨?_, ?_, ?_, ?_⟩
      · rw [sumR_addR (by rw [hl.1]; exact cntS_len _), i1, show (cntT (trK m data k)).start = cntS _ from rfl, sum_cntS h, Rat.intCast_add]; rfl
      · rw [sumR_addR (by rw [hl.2.1]; exact cntE_len _), i2, show (cntT (trK m data k)).fin = cntE _ from rfl, sum_cntE h, Rat.intCast_add]; rfl
      · rw [sumX_addM (by rw [hl.2.2.2.1]; exact cntY_len _) (fun i hi => by rw [hl.2.2.2.1] at hi; exact (cntY_row (t := trK m data k) hi).trans (hr i hi).2.symm), i3, show (cntT (trK m data k)).say = cntY _ from rfl, sum_cntY (ok k (by omega)) h, Rat.intCast_add]; rfl
      · rw [sumX_addM (by rw [hl.2.2.1]; exact cntM_len _) (fun i hi => by rw [hl.2.2.1] at hi; exact (cntM_row (t := trK m data k) hi).trans (hr i hi).1.symm), i4, show (cntT (trK m data k)).move = cntM _ from rfl, sum_cntM h, ← Rat.intCast_natCast, ← Rat.intCast_add]
        congr 1; omega
end Go.Ear
set_option linter.unusedVariables false
namespace Go.Ear
def rbw (t : Tr) (F : Nat → List Rat) : Nat → List Rat
  | 0 => (List.range t.m.start.length).map fun i => (t.m.fin.getD i fr0).rat
  | k + 1 => (List.range t.m.start.length).map fun i => sumTo (fun j => if (F (t.o.length - 1 - k)).getD j 0 = 0 then 0 else moveT t i j * sayT t j (t.o.length - 1 - k) * (rbw t F k).getD j 0) t.m.start.length
def rbI (t : Tr) (F : Nat → List Rat) (i p k j : Nat) : Rat := if (F p).getD j 0 = 0 then 0 else moveT t i j * sayT t j p * (rbw t F k).getD j 0
theorem sumTo_zero_all : ∀ {n : Nat} {q : Nat → Rat}, (∀ i, i < n → 0 ≤ q i) → sumTo q n = 0 → ∀ i, i < n → q i = 0
  | n + 1, q, hq, h, i, hi => by
    have h1 := sumTo_nonneg n fun i hi => hq i (show i < n + 1 by omega)
    have h2 := hq n (by omega)
    rw [sumTo_succ] at h
    have h3 : sumTo q n = 0 := by clear hq; grind
    by_cases e : i = n
    · subst e; rw [h3, Rat.zero_add] at h; exact h
    · exact sumTo_zero_all (fun i hi => hq i (by omega)) h3 i (by omega)
def rTot (t : Tr) (F : Nat → List Rat) : Rat := if t.o.length = 0 then 0 else sumTo (fun i => (F (t.o.length - 1)).getD i 0 * (t.m.fin.getD i fr0).rat) t.m.start.length
def rY (t : Tr) (F : Nat → List Rat) (i k : Nat) : Rat := (F k).getD i 0 * (rbw t F (t.o.length - 1 - k)).getD i 0 / rTot t F
def rWm (t : Tr) (F : Nat → List Rat) (i k j : Nat) : Rat := (F k).getD i 0 * moveT t i j * sayT t j (k + 1) * (rbw t F (t.o.length - 1 - (k + 1))).getD j 0
def rM (t : Tr) (F : Nat → List Rat) (i k j : Nat) : Rat := if (F (k + 1)).getD j 0 = 0 then 0 else rWm t F i k j / rTot t F
def rSay (t : Tr) (F : Nat → List Rat) (i : Nat) (a : List Rat) : Nat → List Rat
  | 0 => a
  | k + 1 => (rSay t F i a k).set (t.o.getD k 0).toNat ((rSay t F i a k).getD (t.o.getD k 0).toNat 0 + rY t F i k)
def rMov (t : Tr) (F : Nat → List Rat) (i : Nat) (a : List Rat) : Nat → List Rat
  | 0 => a
  | k + 1 => (List.range t.m.start.length).map fun j => (rMov t F i a k).getD j 0 + rM t F i k j
def addCt (t : Tr) (F : Nat → List Rat) (c : Ct) : Ct :=
  ⟨(List.range t.m.start.length).map fun i => c.start.getD i 0 + rY t F i 0,
   (List.range t.m.start.length).map fun i => rMov t F i (c.move.getD i []) (t.o.length - 1),
   (List.range t.m.start.length).map fun i => c.fin.getD i 0 + rY t F i (t.o.length - 1),
   (List.range t.m.start.length).map fun i => rSay t F i (c.say.getD i []) t.o.length, c.used, c.unused, 0⟩
end Go.Ear
set_option linter.unusedVariables false
namespace Go.Ear
theorem sumTo_split (q : Nat → Rat) (a : Nat) : ∀ b, sumTo q (a + b) = sumTo q a + sumTo (fun j => q (a + j)) b
  | 0 => (Rat.add_zero _).symm
  | b + 1 => by rw [← Nat.add_assoc, sumTo_succ, sumTo_succ, sumTo_split q a b]; exact Rat.add_assoc ..
def stQ (m : Md) (i : Nat) : Rat := (m.start.getD i fr0).rat
def mvE (m : Md) (i j : Nat) : Rat := ((m.move.getD i []).getD j fr0).rat
def fiQ (m : Md) (i : Nat) : Rat := (m.fin.getD i fr0).rat
def syQ (m : Md) (i k : Nat) : Rat := ((m.say.getD i []).getD k fr0).rat
structure JoinOf (j a b : Md) : Prop where
  n : j.start.length = a.start.length + b.start.length
  s1 : ∀ i, i < a.start.length → stQ j i = stQ a i
  s2 : ∀ i, i < b.start.length → stQ j (a.start.length + i) = 0
  m1 : ∀ i k, i < a.start.length → k < a.start.length → mvE j i k = mvE a i k
  m2 : ∀ i k, i < a.start.length → k < b.start.length → mvE j i (a.start.length + k) = fiQ a i * stQ b k
  m3 : ∀ i k, i < b.start.length → k < a.start.length → mvE j (a.start.length + i) k = 0
  m4 : ∀ i k, i < b.start.length → k < b.start.length → mvE j (a.start.length + i) (a.start.length + k) = mvE b i k
  f1 : ∀ i, i < a.start.length → fiQ j i = 0
  f2 : ∀ i, i < b.start.length → fiQ j (a.start.length + i) = fiQ b i
  y1 : ∀ i k, i < a.start.length → syQ j i k = syQ a i k
  y2 : ∀ i k, i < b.start.length → syQ j (a.start.length + i) k = syQ b i k
section
variable {j a b : Md} {o : List Int}
structure MixOf (j a b : Md) (p q : Rat) : Prop where
  n : j.start.length = a.start.length + b.start.length
  s1 : ∀ i, i < a.start.length → stQ j i = p * stQ a i
  s2 : ∀ i, i < b.start.length → stQ j (a.start.length + i) = q * stQ b i
  m1 : ∀ i k, i < a.start.length → k < a.start.length → mvE j i k = mvE a i k
  m2 : ∀ i k, i < a.start.length → k < b.start.length → mvE j i (a.start.length + k) = 0
  m3 : ∀ i k, i < b.start.length → k < a.start.length → mvE j (a.start.length + i) k = 0
  m4 : ∀ i k, i < b.start.length → k < b.start.length → mvE j (a.start.length + i) (a.start.length + k) = mvE b i k
  f1 : ∀ i, i < a.start.length → fiQ j i = fiQ a i
  f2 : ∀ i, i < b.start.length → fiQ j (a.start.length + i) = fiQ b i
  y1 : ∀ i k, i < a.start.length → syQ j i k = syQ a i k
  y2 : ∀ i k, i < b.start.length → syQ j (a.start.length + i) k = syQ b i k
end
end Go.Ear
set_option linter.unusedVariables false
namespace Go.Ear
section
variable {α : Type}
def blkL (ms : List Md) (f : Nat → Nat → α) : Nat → List α
  | 0 => []
  | x + 1 => blkL ms f x ++ (List.range (sz4 ms x)).map (f x)
end
theorem sumR_append (a b : List Rat) : sumR (a ++ b) = sumR a + sumR b := by
  unfold sumR
  rw [List.length_append, sumTo_split]
  congr 1
  · exact sumTo_congr _ fun i hi => by rw [List.getD_eq_getElem?_getD, List.getElem?_append_left hi, ← List.getD_eq_getElem?_getD]
  · exact sumTo_congr _ fun i hi => by rw [List.getD_eq_getElem?_getD, List.getElem?_append_right (by omega), Nat.add_sub_cancel_left, ← List.getD_eq_getElem?_getD]
def jnP (n : Nat) (ms : List Md) (x i j : Nat) : List Rat := (List.range n).map fun c => if offN ms x ≤ c ∧ c < offN ms x + sz4 ms x then mvQ ms x i (c - offN ms x) else if offN ms (x + 1) ≤ c ∧ c < offN ms (x + 1) + j then fiQ (ms.getD x md0) i * stQ (ms.getD (x + 1) md0) (c - offN ms (x + 1)) else 0
def nxN (ms : List Md) (x : Nat) : Nat := if x + 1 < ms.length then sz4 ms (x + 1) else 0
def joinM (n : Nat) (ms : List Md) : List (List Rat) := blkL ms (fun x i => jnP n ms x i (nxN ms x)) ms.length
def joinF (ms : List Md) : List Rat := blkL ms (fun x i => if x + 1 < ms.length then 0 else fiQ (ms.getD x md0) i) ms.length
def joinS (ms : List Md) : List Rat := blkL ms (fun x i => if x = 0 then stQ (ms.getD 0 md0) i else 0) ms.length
def joinE (ms : List Md) : Int := if beginE ms ≠ 0 then beginE ms else if 40 < offN ms ms.length then 5 else 0
def joinMd (ms : List Md) : Md := mdK (joinS ms) (joinM (beginN ms) ms) (joinF ms) (bsY ms ms.length)
def joinR (ms : List Md) : Md := if joinE ms = 0 then joinMd ms else md0
section
variable {ms : List Md}
end
theorem dist_K {l : List Rat} : distF (l.map frK) = true ↔ (∀ i, 0 ≤ l.getD i 0) ∧ sumR l = 1 := by
  rw [dist_iff, sumF_K]
  constructor
  · rintro ⟨a, b⟩; exact ⟨fun i => by have := a i; rwa [getD_K'] at this, b⟩
  · rintro ⟨a, b⟩; exact ⟨fun i => by rw [getD_K']; exact a i, b⟩
theorem map_getDR (l : List (List Rat)) (i : Nat) : (l.map (·.map frK)).getD i [] = (l.getD i []).map frK := by
  rw [List.getD_eq_getElem?_getD, List.getElem?_map, List.getD_eq_getElem?_getD]
  cases l[i]? <;> rfl
theorem map_getDK {l : List Rat} {i : Nat} (h : i < l.length) : (l.map frK).getD i fr0 = frK (l.getD i 0) := by
  rw [List.getD_eq_getElem?_getD, List.getElem?_map, List.getD_eq_getElem?_getD, List.getElem?_eq_getElem h]; rfl
structure VK (n k : Nat) (S : List Rat) (M : List (List Rat)) (E : List Rat) (Y : List (List Rat)) : Prop where
  n1 : 1 ≤ n
  k1 : 1 ≤ k
  l : S.length = n ∧ M.length = n ∧ E.length = n ∧ Y.length = n
  r : ∀ i, i < n → (M.getD i []).length = n ∧ (Y.getD i []).length = k
  s : (∀ i, i < n → 0 ≤ S.getD i 0) ∧ sumR S = 1
  m : ∀ i, i < n → (∀ j, j < n → 0 ≤ (M.getD i []).getD j 0) ∧ 0 ≤ E.getD i 0 ∧ sumR (M.getD i []) + E.getD i 0 = 1
  y : ∀ i, i < n → (∀ j, 0 ≤ (Y.getD i []).getD j 0) ∧ sumR (Y.getD i []) = 1
theorem nn_pad {l : List Rat} (h : ∀ i, i < l.length → 0 ≤ l.getD i 0) (i : Nat) : 0 ≤ l.getD i 0 := by
  by_cases hi : i < l.length
  · exact h i hi
  · rw [List.getD_eq_getElem?_getD, List.getElem?_eq_none (by omega)]; exact Rat.le_refl
theorem VK.valid {n k : Nat} {S : List Rat} {M : List (List Rat)} {E : List Rat} {Y : List (List Rat)} (v : VK n k S M E Y) : validM (mdK S M E Y) = true := by
  obtain ⟨l1, l2, l3, l4⟩ := v.l
  have n1 := v.n1
  have hsy : symb (mdK S M E Y) = k := by
    show ((Y.map (·.map frK)).getD 0 []).length = k
    rw [map_getDR, List.length_map]; exact (v.r 0 (by omega)).2
  rw [validM_iff]
  refine ⟨?_, ?_, ?_⟩
  · show 1 ≤ (S.map frK).length ∧ (E.map frK).length = (S.map frK).length ∧ (M.map (·.map frK)).length = (S.map frK).length ∧ (Y.map (·.map frK)).length = (S.map frK).length
    simp only [List.length_map]; omega
  · show distF (S.map frK) = true
    exact dist_K.2 ⟨nn_pad fun i hi => v.s.1 i (by omega), v.s.2⟩
  · rw [List.all_eq_true]
    intro i hi
    have hi : i < n := by have := List.mem_range.1 hi; rw [show (mdK S M E Y).start.length = S.length from List.length_map _, l1] at this; exact this
    obtain ⟨r1, r2⟩ := v.r i hi
    obtain ⟨m1, m2, m3⟩ := v.m i hi
    have hM : (mdK S M E Y).move.getD i [] = (M.getD i []).map frK := map_getDR M i
    have hY : (mdK S M E Y).say.getD i [] = (Y.getD i []).map frK := map_getDR Y i
    have hE : (mdK S M E Y).fin.getD i fr0 = frK (E.getD i 0) := map_getDK (by omega)
    have hL : leaveM (mdK S M E Y) i = (M.getD i [] ++ [E.getD i 0]).map frK := by unfold leaveM; rw [hM, hE, List.map_append]; rfl
    unfold rowM
    simp only [Bool.and_eq_true, decide_eq_true_eq]
    rw [hM, hY, hsy, hL, List.length_map, List.length_map]
    refine ⟨⟨⟨⟨?_, r2⟩, v.k1⟩, ?_⟩, ?_⟩
    · show _ = (S.map frK).length; rw [List.length_map, l1]; exact r1
    · refine dist_K.2 ⟨nn_pad fun j hj => ?_, ?_⟩
      · rw [List.length_append, r1] at hj
        rw [List.getD_eq_getElem?_getD]
        by_cases e : j < n
        · rw [List.getElem?_append_left (by omega), ← List.getD_eq_getElem?_getD]; exact m1 j e
        · rw [List.getElem?_append_right (by omega), r1, show j - n = 0 by have : j < n + 1 := hj; omega]; exact m2
      · rw [sumR_append, show sumR [E.getD i 0] = 0 + E.getD i 0 from rfl, Rat.zero_add]; exact m3
    · exact dist_K.2 (v.y i hi)
end Go.Ear
set_option linter.unusedVariables false
namespace Go.Ear
structure SideOk (ms : List Md) (k : Nat) : Prop where
  l : 1 ≤ ms.length
  v : ∀ x, x < ms.length → validM (ms.getD x md0) = true
  y : ∀ x, x < ms.length → symb (ms.getD x md0) = k
section
variable {ms : List Md} {k : Nat} (so : SideOk ms k)
include so
theorem SideOk.nn {x : Nat} (hx : x < ms.length) : Nn (ms.getD x md0) := Nn.of (so.v x hx)
theorem SideOk.st {x : Nat} (hx : x < ms.length) : sumTo (stQ (ms.getD x md0)) (sz4 ms x) = 1 := (Ones.of (so.v x hx)).st
theorem SideOk.lv {x i : Nat} (hx : x < ms.length) (hi : i < sz4 ms x) : sumTo (mvQ ms x i) (sz4 ms x) + fiQ (ms.getD x md0) i = 1 := (Ones.of (so.v x hx)).lv i hi
theorem SideOk.n1 : 1 ≤ offN ms ms.length := by
  have := offN_lt (ms := ms) (x := 0) (L := ms.length) so.l
  have h2 := (valid_len (so.v 0 so.l)).1
  unfold sz4 at this; omega
theorem SideOk.k1 : 1 ≤ k := by
  have h := so.v 0 so.l
  have := (valid_row h (i := 0) (valid_len h).1).2.2.1
  rw [so.y 0 so.l] at this; exact this
theorem SideOk.say {x i : Nat} (hx : x < ms.length) (hi : i < sz4 ms x) : ((ms.getD x md0).say.getD i []).length = k := by
  have := (valid_row (so.v x hx) (i := i) hi).2.1
  rw [so.y x hx] at this; exact this
end
theorem rep_nn (n : Nat) {q : Rat} (hq : 0 ≤ q) (i : Nat) : 0 ≤ (List.replicate n q).getD i 0 := by
  rw [List.getD_eq_getElem?_getD, List.getElem?_replicate]; split
  · exact hq
  · exact Rat.le_refl
section
variable {a b : Md} {k : Nat}
theorem stK {S M E Y i} : stQ (mdK S M E Y) i = S.getD i 0 := getD_K' S i
theorem fiK {S M E Y i} : fiQ (mdK S M E Y) i = E.getD i 0 := getD_K' E i
theorem mvK {S M E Y i j} : mvE (mdK S M E Y) i j = (M.getD i []).getD j 0 := by
  show (((M.map (·.map frK)).getD i []).getD j fr0).rat = _
  rw [map_getDR, getD_K']
theorem syK {S M E Y i j} : syQ (mdK S M E Y) i j = (Y.getD i []).getD j 0 := by
  show (((Y.map (·.map frK)).getD i []).getD j fr0).rat = _
  rw [map_getDR, getD_K']
end
end Go.Ear
set_option linter.unusedVariables false
namespace Go.Ear
section
variable {ms : List Md} (h : ∀ x, MdW 2 (ms.getD x md0))
include h
end
theorem mdK_W {S E : List Rat} {M Y : List (List Rat)} {W : Nat} (h1 : ∀ i, bq (S.getD i 0) ≤ W) (h2 : ∀ i j, bq ((M.getD i []).getD j 0) ≤ W) (h3 : ∀ i, bq (E.getD i 0) ≤ W) (h4 : ∀ i j, bq ((Y.getD i []).getD j 0) ≤ W) : MdW W (mdK S M E Y) :=
  ⟨fun i => by have := h1 i; rw [← stK (M := M) (E := E) (Y := Y)] at this; exact this, fun i j => by have := h2 i j; rw [← mvK (S := S) (E := E) (Y := Y)] at this; exact this, fun i => by have := h3 i; rw [← fiK (S := S) (M := M) (Y := Y)] at this; exact this, fun i j => by have := h4 i j; rw [← syK (S := S) (M := M) (E := E)] at this; exact this⟩
theorem wts_le2 {B : Nat} : ∀ {l : List Rat}, (∀ q ∈ l, bq q ≤ B) → wts (l.map frK) ≤ (B + 1) * l.length
  | [], _ => Nat.le_refl _
  | q :: l, h => by
    have h1 := h q (List.mem_cons_self ..)
    have h2 := wts_le2 (B := B) (l := l) fun g hg => h g (List.mem_cons_of_mem _ hg)
    rw [List.map_cons, wts_cons, List.length_cons, Nat.mul_succ, bf_frK]; omega
theorem wts_K2 {l : List Rat} {B : Nat} (h : ∀ i, bq (l.getD i 0) ≤ B) : wts (l.map frK) ≤ (B + 1) * l.length := wts_le2 fun q hq => by
  obtain ⟨i, hi, rfl⟩ := List.getElem_of_mem hq
  have := h i
  rwa [List.getD_eq_getElem?_getD, List.getElem?_eq_getElem hi] at this
theorem wts_R2 {l : List (List Rat)} {B N K : Nat} (h : ∀ i j, bq ((l.getD i []).getD j 0) ≤ B) (hn : ∀ i, i < l.length → (l.getD i []).length ≤ N) (hK : (B + 1) * N ≤ K) : ∀ r ∈ l.map (·.map frK), wts r ≤ K := fun r hr => by
  obtain ⟨q, hq, rfl⟩ := List.mem_map.1 hr
  obtain ⟨i, hi, rfl⟩ := List.getElem_of_mem hq
  have h1 := h i
  have h2 := hn i hi
  rw [List.getD_eq_getElem?_getD, List.getElem?_eq_getElem hi] at h1 h2
  exact Nat.le_trans (wts_K2 h1) (Nat.le_trans (Nat.mul_le_mul_left _ h2) hK)
theorem VK.B {n k : Nat} {S : List Rat} {M : List (List Rat)} {E : List Rat} {Y : List (List Rat)} (v : VK n k S M E Y) {W K : Nat} (hn : n ≤ 64) (hk : k ≤ 70) (w : MdW W (mdK S M E Y)) (hK : (W + 1) * 70 ≤ K) : MdB K (mdK S M E Y) := by
  have w1 : ∀ i, bq (S.getD i 0) ≤ W := fun i => by rw [← stK (M := M) (E := E) (Y := Y)]; exact w.st i
  have w2 : ∀ i j, bq ((M.getD i []).getD j 0) ≤ W := fun i j => by rw [← mvK (S := S) (E := E) (Y := Y)]; exact w.mv i j
  have w3 : ∀ i, bq (E.getD i 0) ≤ W := fun i => by rw [← fiK (S := S) (M := M) (Y := Y)]; exact w.fi i
  have w4 : ∀ i j, bq ((Y.getD i []).getD j 0) ≤ W := fun i j => by rw [← syK (S := S) (M := M) (E := E)]; exact w.sy i j
  have hl := v.l
  refine ⟨?_, ?_, ?_, ?_⟩
  · exact Nat.le_trans (wts_K2 w1) (Nat.le_trans (Nat.mul_le_mul_left _ (by omega)) hK)
  · exact wts_R2 w2 (fun i hi => by have := (v.r i (by omega)).1; omega) hK
  · exact Nat.le_trans (wts_K2 w3) (Nat.le_trans (Nat.mul_le_mul_left _ (by omega)) hK)
  · exact wts_R2 w4 (fun i hi => by have := (v.r i (by omega)).2; omega) hK
theorem VK.symb {n k : Nat} {S : List Rat} {M : List (List Rat)} {E : List Rat} {Y : List (List Rat)} (v : VK n k S M E Y) : Go.Ear.symb (mdK S M E Y) = k := by
  show ((Y.map (·.map frK)).getD 0 []).length = k
  rw [map_getDR, List.length_map]; exact (v.r 0 v.n1).2
theorem VK.long {n k : Nat} {S : List Rat} {M : List (List Rat)} {E : List Rat} {Y : List (List Rat)} (v : VK n k S M E Y) (hn : n ≤ 40) (hk : k ≤ 64) : longM (mdK S M E Y) = false := by
  have h1 : (mdK S M E Y).start.length = n := by show (S.map frK).length = n; rw [List.length_map]; exact v.l.1
  unfold longM
  rw [v.symb, h1]
  simp only [Bool.or_eq_false_iff, decide_eq_false_iff_not, Bool.and_eq_false_iff]
  exact ⟨by omega, .inr (by omega)⟩
theorem checkE_nil {ms : List Md} (hv : ∀ m ∈ ms, validM m = true) (hl : ∀ m ∈ ms, longM m = false) : checkE ms [] = 0 :=
  (checkE_ok (by
    rw [Bool.not_eq_true, List.any_eq_false]; intro m hm; rw [hl m hm]; decide) (by decide) (by decide) (by
    rw [Bool.not_eq_true, List.any_eq_false]; intro m hm; unfold notV; rw [hv m hm]; decide) rfl).symm
end Go.Ear
set_option linter.unusedVariables false
namespace Go.Ear
theorem half_bq : bq halfQ ≤ 100 := by have := bq_quot (a := ((1 : Nat) : Int)) (b := ((2 : Nat) : Int)) (by decide) (by decide) (by decide) (by decide); rwa [bf_frK] at this
def fineB (ms : List Md) (i : Nat) : Bool := decide (0 < ms.length) && (List.range i).all fun j => decide (checkE [ms.getD j md0] [] = 0) && decide (symb (ms.getD j md0) = symb (ms.getD 0 md0))
section
variable {ms : List Md} (hl : ∀ x, x < ms.length → longM (ms.getD x md0) = false)
include hl
end
end Go.Ear
