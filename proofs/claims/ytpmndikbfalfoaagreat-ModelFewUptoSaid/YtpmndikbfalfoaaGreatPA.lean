/- PA: a part of the proofs about package model: how the program's functions run, and what they compute, for every input. -/
import Derived.Test.YtpmndikbfalfoaaGreatK9
set_option linter.all false
set_option linter.unusedVariables false
namespace Go.Ear
def postR (t : Tr) (k : Nat) : List Rat := (List.range t.m.start.length).map fun i => pY t i k
def postT (t : Tr) : List (List Rat) := (List.range t.o.length).map (postR t)
def postE (m : Md) (o : List Int) : Int := if checkE [m] [o] ≠ 0 then checkE [m] [o] else if lk ⟨m, o⟩ = 0 then 7 else 0
def postM (m : Md) (o : List Int) : List (List Rat) := if postE m o = 0 then postT ⟨m, o⟩ else []
def sumR (l : List Rat) : Rat := sumTo (fun i => l.getD i 0) l.length
def sumX (l : List (List Rat)) : Rat := sumTo (fun i => sumR (l.getD i [])) l.length
def frmT (m : Md) (data : List (List Int)) : Nat → Int
  | 0 => 0
  | k + 1 => if lk (trK m data k) = 0 then frmT m data k else frmT m data k + ((data.getD k []).length : Int)
theorem allT_row' (m : Md) (data : List (List Int)) : ∀ k i, i < m.start.length → ((allT m data k).move.getD i []).length = m.start.length ∧ ((allT m data k).say.getD i []).length = symb m
  | 0, i, hi => by
    rw [allT, ctZ]
    dsimp only
    rw [← rep_getD (x := List.replicate m.start.length (0 : Rat)) (d := []) hi, ← rep_getD (x := List.replicate (symb m) (0 : Rat)) (d := []) hi]; simp
  | k + 1, i, hi => by
    have ih := allT_row' m data k i hi
    have hl := allT_len m data k
    by_cases h : lk (trK m data k) = 0
    · rw [allT_t h]; exact ih
    · rw [allT_f h]; dsimp only
      rw [← addM_at (by omega), ← addM_at (by omega), addR_len, addR_len]; exact ih
end Go.Ear
set_option linter.unusedVariables false
namespace Go.Ear
def rbw (t : Tr) (F : Nat → List Rat) : Nat → List Rat
  | 0 => (List.range t.m.start.length).map fun i => (t.m.fin.getD i fr0).rat
  | k + 1 => (List.range t.m.start.length).map fun i => sumTo (fun j => if (F (t.o.length - 1 - k)).getD j 0 = 0 then 0 else moveT t i j * sayT t j (t.o.length - 1 - k) * (rbw t F k).getD j 0) t.m.start.length
theorem rbw_len (t : Tr) (F : Nat → List Rat) (k : Nat) : (rbw t F k).length = t.m.start.length := by cases k <;> simp [rbw]
theorem rbw_z {t : Tr} {F : Nat → List Rat} {i k : Nat} (h0 : k = 0) (hi : i < t.m.start.length) : (t.m.fin.getD i fr0).rat = (rbw t F k).getD i 0 := by subst h0; rw [rbw, range_getD _ _ hi]
def rbI (t : Tr) (F : Nat → List Rat) (i p k j : Nat) : Rat := if (F p).getD j 0 = 0 then 0 else moveT t i j * sayT t j p * (rbw t F k).getD j 0
theorem rbw_s {t : Tr} {F : Nat → List Rat} {i k : Nat} (h0 : 1 ≤ k) (hk : k < t.o.length) (hi : i < t.m.start.length) : sumTo (rbI t F i (t.o.length - 1 - k + 1) (k - 1)) t.m.start.length = (rbw t F k).getD i 0 := by
  obtain ⟨j, rfl⟩ : ∃ j, k = j + 1 := ⟨k - 1, by omega⟩
  rw [rbw, range_getD _ _ hi, show t.o.length - 1 - (j + 1) + 1 = t.o.length - 1 - j by omega]; rfl
theorem rbw_bq {t : Tr} {F : Nat → List Rat} {S W : Nat} (h : MdW W t.m) (hs : t.m.start.length ≤ S) (hW : 1 ≤ W) : ∀ k i, bq ((rbw t F k).getD i 0) ≤ bB S W k
  | 0, i => by
    by_cases hi : i < t.m.start.length
    · rw [rbw, range_getD _ _ hi]; exact Nat.le_trans (h.fi i) (by unfold bB; omega)
    · rw [out_bq (by rw [rbw_len]; omega)]; unfold bB; omega
  | k + 1, i => by
    have hB : 1 ≤ bB S W k := by cases k <;> (unfold bB; omega)
    by_cases hi : i < t.m.start.length
    · rw [rbw, range_getD _ _ hi]
      have h3 := bq_sumTo (q := fun j => if (F (t.o.length - 1 - k)).getD j 0 = 0 then 0 else moveT t i j * sayT t j (t.o.length - 1 - k) * (rbw t F k).getD j 0) (B := W + W + bB S W k) t.m.start.length fun j _ => by
        split
        · rw [bq_zero]; omega
        · have h5 := rbw_bq (F := F) h hs hW k j
          have h6 : bq (moveT t i j) ≤ W := h.mv i j
          have h7 : bq (sayT t j (t.o.length - 1 - k)) ≤ W := h.sy j _
          exact Nat.le_trans (bq_mul _ _) (Nat.add_le_add (Nat.le_trans (bq_mul _ _) (Nat.add_le_add h6 h7)) h5)
      have h4 := Nat.mul_le_mul_right (W + W + bB S W k + 1) hs
      refine Nat.le_trans h3 ?_
      rw [bB, show 2 * W + bB S W k + 1 = W + W + bB S W k + 1 by omega]
      omega
    · rw [out_bq (by rw [rbw_len]; omega)]; unfold bB; omega
theorem sumTo_zero_all : ∀ {n : Nat} {q : Nat → Rat}, (∀ i, i < n → 0 ≤ q i) → sumTo q n = 0 → ∀ i, i < n → q i = 0
  | n + 1, q, hq, h, i, hi => by
    have h1 := sumTo_nonneg n fun i hi => hq i (show i < n + 1 by omega)
    have h2 := hq n (by omega)
    rw [sumTo_succ] at h
    have h3 : sumTo q n = 0 := by clear hq; grind
    by_cases e : i = n
    · subst e; rw [h3, Rat.zero_add] at h; exact h
    · exact sumTo_zero_all (fun i hi => hq i (by omega)) h3 i (by omega)
theorem fwd_gap {t : Tr} (nn : Nn t.m) {k i j : Nat} (hi : i < t.m.start.length) (hj : j < t.m.start.length) (h0 : (fwd t k).getD i 0 ≠ 0) (h1 : (fwd t (k + 1)).getD j 0 = 0) : moveT t i j * sayT t j (k + 1) = 0 := by
  rw [← fwd_succ hj] at h1
  rcases Rat.mul_eq_zero.1 h1 with h | h
  · rw [h, Rat.mul_zero]
  · have := sumTo_zero_all (fun a _ => Rat.mul_nonneg (fwd_nn nn k a) (nn.mv a j)) h i hi
    rcases Rat.mul_eq_zero.1 this with h | h
    · exact absurd h h0
    · rw [show moveT t i j = 0 from h, Rat.zero_mul]
theorem rbw_bwd {t : Tr} (nn : Nn t.m) : ∀ k i, k < t.o.length → i < t.m.start.length → (fwd t (t.o.length - 1 - k)).getD i 0 ≠ 0 → (rbw t (fwd t) k).getD i 0 = (bwd t k).getD i 0
  | 0, i, _, hi, _ => by rw [← rbw_z rfl hi, bwd_zero hi]
  | k + 1, i, hk, hi, h0 => by
    rw [rbw, range_getD _ _ hi, ← bwd_succ hi]
    refine sumTo_congr _ fun j hj => ?_
    have e : t.o.length - 1 - k = t.o.length - 1 - (k + 1) + 1 := by omega
    by_cases hz : (fwd t (t.o.length - 1 - k)).getD j 0 = 0
    · rw [if_pos hz]
      have := fwd_gap nn hi hj h0 (by rw [← e]; exact hz)
      rw [e, this, Rat.zero_mul]
    · rw [if_neg hz, rbw_bwd nn k j (by omega) hj hz]
def rTot (t : Tr) (F : Nat → List Rat) : Rat := if t.o.length = 0 then 0 else sumTo (fun i => (F (t.o.length - 1)).getD i 0 * (t.m.fin.getD i fr0).rat) t.m.start.length
def rY (t : Tr) (F : Nat → List Rat) (i k : Nat) : Rat := (F k).getD i 0 * (rbw t F (t.o.length - 1 - k)).getD i 0 / rTot t F
def rWm (t : Tr) (F : Nat → List Rat) (i k j : Nat) : Rat := (F k).getD i 0 * moveT t i j * sayT t j (k + 1) * (rbw t F (t.o.length - 1 - (k + 1))).getD j 0
def rM (t : Tr) (F : Nat → List Rat) (i k j : Nat) : Rat := if (F (k + 1)).getD j 0 = 0 then 0 else rWm t F i k j / rTot t F
theorem rTot_fwd (t : Tr) : rTot t (fwd t) = lk t := by
  unfold rTot
  split
  · exact (lk_zero (by assumption)).symm
  · exact (lk_fwd (by omega)).symm
theorem rY_fwd {t : Tr} (nn : Nn t.m) {i k : Nat} (hk : k < t.o.length) (hi : i < t.m.start.length) : rY t (fwd t) i k = pY t i k := by
  unfold rY pY
  rw [rTot_fwd]
  by_cases h : (fwd t k).getD i 0 = 0
  · rw [h, Rat.zero_mul, Rat.zero_mul]
  · rw [rbw_bwd nn _ i (by omega) hi (by rw [show t.o.length - 1 - (t.o.length - 1 - k) = k by omega]; exact h)]
theorem rM_fwd {t : Tr} (nn : Nn t.m) {i k j : Nat} (hk : k + 1 < t.o.length) (hi : i < t.m.start.length) (hj : j < t.m.start.length) : rM t (fwd t) i k j = pM t i k j := by
  unfold rM pM rWm wM
  rw [rTot_fwd]
  split
  · rename_i h
    by_cases h0 : (fwd t k).getD i 0 = 0
    · rw [h0, Rat.zero_mul, Rat.zero_mul, Rat.zero_mul, zero_div_rat]
    · rw [show (fwd t k).getD i 0 * moveT t i j * sayT t j (k + 1) = (fwd t k).getD i 0 * (moveT t i j * sayT t j (k + 1)) from Rat.mul_assoc .., fwd_gap nn hi hj h0 h, Rat.mul_zero, Rat.zero_mul, zero_div_rat]
  · rename_i h
    rw [rbw_bwd nn _ j (by omega) hj (by rw [show t.o.length - 1 - (t.o.length - 1 - (k + 1)) = k + 1 by omega]; exact h)]
def rSay (t : Tr) (F : Nat → List Rat) (i : Nat) (a : List Rat) : Nat → List Rat
  | 0 => a
  | k + 1 => (rSay t F i a k).set (t.o.getD k 0).toNat ((rSay t F i a k).getD (t.o.getD k 0).toNat 0 + rY t F i k)
def rMov (t : Tr) (F : Nat → List Rat) (i : Nat) (a : List Rat) : Nat → List Rat
  | 0 => a
  | k + 1 => (List.range t.m.start.length).map fun j => (rMov t F i a k).getD j 0 + rM t F i k j
theorem rSay_len (t : Tr) (F : Nat → List Rat) (i : Nat) (a : List Rat) : ∀ k, (rSay t F i a k).length = a.length
  | 0 => rfl
  | k + 1 => by rw [rSay, List.length_set, rSay_len t F i a k]
theorem rMov_len {t : Tr} {F : Nat → List Rat} {i : Nat} {a : List Rat} (h : a.length = t.m.start.length) (k : Nat) : (rMov t F i a k).length = t.m.start.length := by cases k <;> simp [rMov, h]
theorem addR_rep (a : List Rat) (n : Nat) : addR a (List.replicate n 0) = a := by
  unfold addR
  apply List.ext_getElem?
  intro i
  rw [List.getElem?_map]
  by_cases hi : i < a.length
  · rw [List.getElem?_range hi, List.getElem?_eq_getElem hi, Option.map_some, List.getD_eq_getElem?_getD, List.getElem?_eq_getElem hi, List.getD_eq_getElem?_getD, List.getElem?_replicate]
    split <;> exact congrArg some (Rat.add_zero _)
  · rw [List.getElem?_eq_none (by simp; omega), List.getElem?_eq_none (by omega)]; rfl
theorem ext_getD {α : Type} (d : α) {a b : List α} (h : a.length = b.length) (he : ∀ i, i < a.length → a.getD i d = b.getD i d) : a = b := by
  apply List.ext_getElem h
  intro i h1 h2
  have := he i h1
  rwa [List.getD_eq_getElem?_getD, List.getD_eq_getElem?_getD, List.getElem?_eq_getElem h1, List.getElem?_eq_getElem h2] at this
theorem addR_set {a b : List Rat} {x : Nat} {q : Rat} (hx : x < a.length) (hb : b.length = a.length) : (addR a b).set x ((addR a b).getD x 0 + q) = addR a (b.set x (b.getD x 0 + q)) := by
  refine ext_getD 0 (by rw [List.length_set, addR_len, addR_len]) fun i hi => ?_
  rw [List.length_set, addR_len] at hi
  rw [← addR_at hi]
  by_cases e : x = i
  · subst e
    rw [getD_set_is (by rw [addR_len]; exact hx), ← addR_at hx, getD_set_is (by omega)]
    exact Rat.add_assoc ..
  · rw [getD_set_ne' e, getD_set_ne' e, ← addR_at hi]
theorem rSay_fwd {t : Tr} (nn : Nn t.m) (ok : TOk t) {i : Nat} (hi : i < t.m.start.length) {a : List Rat} (ha : a.length = symb t.m) : ∀ k, k ≤ t.o.length → rSay t (fwd t) i a k = addR a (sayRow t i k)
  | 0, _ => by rw [rSay, sayRow, addR_rep]
  | k + 1, hk => by
    rw [rSay, sayRow, rSay_fwd nn ok hi ha k (by omega), rY_fwd nn (by omega) hi, addR_set (by rw [ha]; exact (ok.sy0 (k := k) (by omega)).2) (by rw [sayRow_len, ha])]
theorem rMov_fwd {t : Tr} (nn : Nn t.m) {i : Nat} (hi : i < t.m.start.length) {a : List Rat} (ha : a.length = t.m.start.length) : ∀ k, k + 1 ≤ t.o.length → rMov t (fwd t) i a k = addR a (mvRow t i k)
  | 0, _ => by rw [rMov, mvRow, addR_rep]
  | k + 1, hk => by
    rw [rMov, mvRow, rMov_fwd nn hi ha k (by omega)]
    unfold addR
    rw [ha]
    refine List.map_congr_left fun j hj => ?_
    have hj := List.mem_range.1 hj
    rw [range_getD _ _ hj, range_getD _ _ hj, rM_fwd nn (by omega) hi hj]; grind
def addCt (t : Tr) (F : Nat → List Rat) (c : Ct) : Ct :=
  ⟨(List.range t.m.start.length).map fun i => c.start.getD i 0 + rY t F i 0,
   (List.range t.m.start.length).map fun i => rMov t F i (c.move.getD i []) (t.o.length - 1),
   (List.range t.m.start.length).map fun i => c.fin.getD i 0 + rY t F i (t.o.length - 1),
   (List.range t.m.start.length).map fun i => rSay t F i (c.say.getD i []) t.o.length, c.used, c.unused, 0⟩
theorem addCt_all {m : Md} {data : List (List Int)} {k : Nat} (nn : Nn m) (ok : TOk (trK m data k)) (h : ¬ lk (trK m data k) = 0) :
    (addCt (trK m data k) (fwd (trK m data k)) (allT m data k)).start = (allT m data (k + 1)).start ∧ (addCt (trK m data k) (fwd (trK m data k)) (allT m data k)).move = (allT m data (k + 1)).move ∧
    (addCt (trK m data k) (fwd (trK m data k)) (allT m data k)).fin = (allT m data (k + 1)).fin ∧ (addCt (trK m data k) (fwd (trK m data k)) (allT m data k)).say = (allT m data (k + 1)).say := by
  have hp := lk_pos h
  have hl := allT_len m data k
  have hr := allT_row' m data k
  rw [allT_f h]
  unfold addCt
  dsimp only
  refine ⟨?_, ?_, ?_, ?_⟩
  · unfold addR; rw [hl.1]
    refine List.map_congr_left fun i hi => ?_
    have hi := List.mem_range.1 hi
    rw [rY_fwd (t := trK m data k) nn hp hi, show (cntT (trK m data k)).start = cntS (trK m data k) from rfl, cntS, range_getD _ _ hi]; rfl
  · unfold addM; rw [hl.2.2.1]
    refine List.map_congr_left fun i hi => ?_
    have hi := List.mem_range.1 hi
    rw [rMov_fwd (t := trK m data k) nn hi (hr i hi).1 _ (by omega), show (cntT (trK m data k)).move = cntM (trK m data k) from rfl, cntM, range_getD _ _ hi]
  · unfold addR; rw [hl.2.1]
    refine List.map_congr_left fun i hi => ?_
    have hi := List.mem_range.1 hi
    rw [rY_fwd (t := trK m data k) nn (by omega) hi, show (cntT (trK m data k)).fin = cntE (trK m data k) from rfl, cntE, range_getD _ _ hi]
    unfold pY pE
    rw [show (trK m data k).o.length - 1 - ((trK m data k).o.length - 1) = 0 by omega, ← bwd_zero hi]
  · unfold addM; rw [hl.2.2.2.1]
    refine List.map_congr_left fun i hi => ?_
    have hi := List.mem_range.1 hi
    rw [rSay_fwd (t := trK m data k) nn ok hi (hr i hi).2 _ (Nat.le_refl _), show (cntT (trK m data k)).say = cntY (trK m data k) from rfl, cntY, range_getD _ _ hi]
end Go.Ear
set_option linter.unusedVariables false
namespace Go.Ear
def stQ (m : Md) (i : Nat) : Rat := (m.start.getD i fr0).rat
def mvE (m : Md) (i j : Nat) : Rat := ((m.move.getD i []).getD j fr0).rat
def fiQ (m : Md) (i : Nat) : Rat := (m.fin.getD i fr0).rat
def syQ (m : Md) (i k : Nat) : Rat := ((m.say.getD i []).getD k fr0).rat
structure JoinOf (j a b : Md) : Prop where
  n : j.start.length = a.start.length + b.start.length
  s1 : ∀ i, i < a.start.length → stQ j i = stQ a i
  s2 : ∀ i, i < b.start.length → stQ j (a.start.length + i) = 0
  m1 : ∀ i k, i < a.start.length → k < a.start.length → mvE j i k = mvE a i k
  m2 : ∀ i k, i < a.start.length → k < b.start.length → mvE j i (a.start.length + k) = fiQ a i * stQ b k
  m3 : ∀ i k, i < b.start.length → k < a.start.length → mvE j (a.start.length + i) k = 0
  m4 : ∀ i k, i < b.start.length → k < b.start.length → mvE j (a.start.length + i) (a.start.length + k) = mvE b i k
  f1 : ∀ i, i < a.start.length → fiQ j i = 0
  f2 : ∀ i, i < b.start.length → fiQ j (a.start.length + i) = fiQ b i
  y1 : ∀ i k, i < a.start.length → syQ j i k = syQ a i k
  y2 : ∀ i k, i < b.start.length → syQ j (a.start.length + i) k = syQ b i k
section
variable {j a b : Md} {o : List Int}
structure MixOf (j a b : Md) (p q : Rat) : Prop where
  n : j.start.length = a.start.length + b.start.length
  s1 : ∀ i, i < a.start.length → stQ j i = p * stQ a i
  s2 : ∀ i, i < b.start.length → stQ j (a.start.length + i) = q * stQ b i
  m1 : ∀ i k, i < a.start.length → k < a.start.length → mvE j i k = mvE a i k
  m2 : ∀ i k, i < a.start.length → k < b.start.length → mvE j i (a.start.length + k) = 0
  m3 : ∀ i k, i < b.start.length → k < a.start.length → mvE j (a.start.length + i) k = 0
  m4 : ∀ i k, i < b.start.length → k < b.start.length → mvE j (a.start.length + i) (a.start.length + k) = mvE b i k
  f1 : ∀ i, i < a.start.length → fiQ j i = fiQ a i
  f2 : ∀ i, i < b.start.length → fiQ j (a.start.length + i) = fiQ b i
  y1 : ∀ i k, i < a.start.length → syQ j i k = syQ a i k
  y2 : ∀ i k, i < b.start.length → syQ j (a.start.length + i) k = syQ b i k
end
end Go.Ear
set_option linter.unusedVariables false
namespace Go.Ear
section
variable {α : Type}
def blkL (ms : List Md) (f : Nat → Nat → α) : Nat → List α
  | 0 => []
  | x + 1 => blkL ms f x ++ (List.range (sz4 ms x)).map (f x)
end
def jnP (n : Nat) (ms : List Md) (x i j : Nat) : List Rat := (List.range n).map fun c => if offN ms x ≤ c ∧ c < offN ms x + sz4 ms x then mvQ ms x i (c - offN ms x) else if offN ms (x + 1) ≤ c ∧ c < offN ms (x + 1) + j then fiQ (ms.getD x md0) i * stQ (ms.getD (x + 1) md0) (c - offN ms (x + 1)) else 0
def nxN (ms : List Md) (x : Nat) : Nat := if x + 1 < ms.length then sz4 ms (x + 1) else 0
def joinM (n : Nat) (ms : List Md) : List (List Rat) := blkL ms (fun x i => jnP n ms x i (nxN ms x)) ms.length
def joinF (ms : List Md) : List Rat := blkL ms (fun x i => if x + 1 < ms.length then 0 else fiQ (ms.getD x md0) i) ms.length
def joinS (ms : List Md) : List Rat := blkL ms (fun x i => if x = 0 then stQ (ms.getD 0 md0) i else 0) ms.length
def joinE (ms : List Md) : Int := if beginE ms ≠ 0 then beginE ms else if 40 < offN ms ms.length then 5 else 0
def joinMd (ms : List Md) : Md := mdK (joinS ms) (joinM (beginN ms) ms) (joinF ms) (bsY ms ms.length)
def joinR (ms : List Md) : Md := if joinE ms = 0 then joinMd ms else md0
section
variable {ms : List Md}
end
theorem map_getDR (l : List (List Rat)) (i : Nat) : (l.map (·.map frK)).getD i [] = (l.getD i []).map frK := by
  rw [List.getD_eq_getElem?_getD, List.getElem?_map, List.getD_eq_getElem?_getD]
  cases l[i]? <;> rfl
structure VK (n k : Nat) (S : List Rat) (M : List (List Rat)) (E : List Rat) (Y : List (List Rat)) : Prop where
  n1 : 1 ≤ n
  k1 : 1 ≤ k
  l : S.length = n ∧ M.length = n ∧ E.length = n ∧ Y.length = n
  r : ∀ i, i < n → (M.getD i []).length = n ∧ (Y.getD i []).length = k
  s : (∀ i, i < n → 0 ≤ S.getD i 0) ∧ sumR S = 1
  m : ∀ i, i < n → (∀ j, j < n → 0 ≤ (M.getD i []).getD j 0) ∧ 0 ≤ E.getD i 0 ∧ sumR (M.getD i []) + E.getD i 0 = 1
  y : ∀ i, i < n → (∀ j, 0 ≤ (Y.getD i []).getD j 0) ∧ sumR (Y.getD i []) = 1
end Go.Ear
set_option linter.unusedVariables false
namespace Go.Ear
structure SideOk (ms : List Md) (k : Nat) : Prop where
  l : 1 ≤ ms.length
  v : ∀ x, x < ms.length → validM (ms.getD x md0) = true
  y : ∀ x, x < ms.length → symb (ms.getD x md0) = k
section
variable {ms : List Md} {k : Nat} (so : SideOk ms k)
include so
theorem SideOk.nn {x : Nat} (hx : x < ms.length) : Nn (ms.getD x md0) := Nn.of (so.v x hx)
theorem SideOk.st {x : Nat} (hx : x < ms.length) : sumTo (stQ (ms.getD x md0)) (sz4 ms x) = 1 := (Ones.of (so.v x hx)).st
theorem SideOk.lv {x i : Nat} (hx : x < ms.length) (hi : i < sz4 ms x) : sumTo (mvQ ms x i) (sz4 ms x) + fiQ (ms.getD x md0) i = 1 := (Ones.of (so.v x hx)).lv i hi
theorem SideOk.n1 : 1 ≤ offN ms ms.length := by
  have := offN_lt (ms := ms) (x := 0) (L := ms.length) so.l
  have h2 := (valid_len (so.v 0 so.l)).1
  unfold sz4 at this; omega
theorem SideOk.k1 : 1 ≤ k := by
  have h := so.v 0 so.l
  have := (valid_row h (i := 0) (valid_len h).1).2.2.1
  rw [so.y 0 so.l] at this; exact this
theorem SideOk.say {x i : Nat} (hx : x < ms.length) (hi : i < sz4 ms x) : ((ms.getD x md0).say.getD i []).length = k := by
  have := (valid_row (so.v x hx) (i := i) hi).2.1
  rw [so.y x hx] at this; exact this
end
section
variable {a b : Md} {k : Nat}
end
end Go.Ear
