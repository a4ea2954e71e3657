/- P7: a part of the proofs about package model: how the program's functions run, and what they compute, for every input. -/
import Derived.Test.YtpmndikbfalfoaaGreatP6
set_option linter.all false
set_option linter.unusedVariables false
namespace Go.Ear
section
variable {α : Type}
def blkL (ms : List Md) (f : Nat → Nat → α) : Nat → List α
  | 0 => []
  | x + 1 => blkL ms f x ++ (List.range (sz4 ms x)).map (f x)
theorem blk_len (ms : List Md) (f : Nat → Nat → α) : ∀ x, (blkL ms f x).length = offN ms x
  | 0 => rfl
  | x + 1 => by rw [blkL, List.length_append, blk_len ms f x]; simp [offN]
theorem blk_at {ms : List Md} {f : Nat → Nat → α} {x i : Nat} {d : α} (hi : i < sz4 ms x) : ∀ {L : Nat}, x < L → (blkL ms f L).getD (offN ms x + i) d = f x i
  | L + 1, h => by
    rw [blkL]
    by_cases e : x = L
    · subst e
      rw [List.getD_eq_getElem?_getD, List.getElem?_append_right (by rw [blk_len]; omega), blk_len, Nat.add_sub_cancel_left, ← List.getD_eq_getElem?_getD, range_getD _ _ hi]
    · have hx : x < L := by omega
      have := offN_lt (ms := ms) hx
      rw [List.getD_eq_getElem?_getD, List.getElem?_append_left (by rw [blk_len]; omega), ← List.getD_eq_getElem?_getD]
      exact blk_at hi hx
theorem blk_congr {ms : List Md} {f g : Nat → Nat → α} : ∀ L, (∀ x i, x < L → i < sz4 ms x → f x i = g x i) → blkL ms f L = blkL ms g L
  | 0, _ => rfl
  | L + 1, h => by
    rw [blkL, blkL, blk_congr L fun x i hx hi => h x i (by omega) hi]
    congr 1
    exact List.map_congr_left fun i hi => h L i (by omega) (List.mem_range.1 hi)
theorem off_split (ms : List Md) : ∀ L r, r < offN ms L → ∃ x i, x < L ∧ i < sz4 ms x ∧ r = offN ms x + i
  | 0, r, h => absurd h (Nat.not_lt_zero r)
  | L + 1, r, h => by
    by_cases e : r < offN ms L
    · obtain ⟨x, i, hx, hi, he⟩ := off_split ms L r e
      exact ⟨x, i, by omega, hi, he⟩
    · have h2 : r < offN ms L + sz4 ms L := h
      exact ⟨L, r - offN ms L, by omega, by omega, by omega⟩
end
theorem sumR_append (a b : List Rat) : sumR (a ++ b) = sumR a + sumR b := by
  unfold sumR
  rw [List.length_append, sumTo_split]
  congr 1
  · exact sumTo_congr _ fun i hi => by rw [List.getD_eq_getElem?_getD, List.getElem?_append_left hi, ← List.getD_eq_getElem?_getD]
  · exact sumTo_congr _ fun i hi => by rw [List.getD_eq_getElem?_getD, List.getElem?_append_right (by omega), Nat.add_sub_cancel_left, ← List.getD_eq_getElem?_getD]
theorem sumR_blk (ms : List Md) (f : Nat → Nat → Rat) : ∀ L, sumR (blkL ms f L) = sumTo (fun x => sumTo (f x) (sz4 ms x)) L
  | 0 => rfl
  | L + 1 => by rw [blkL, sumR_append, sumR_blk ms f L, sumR_range]; rfl
theorem mixS_blk (ws : List Fr) (ms : List Md) : ∀ L, mixS ws ms L = blkL ms (fun x i => (ws.getD x fr0).rat * stQ (ms.getD x md0) i) L
  | 0 => rfl
  | L + 1 => by rw [mixS, blkL, mixS_blk ws ms L]; rfl
theorem bsE_blk (ms : List Md) : ∀ L, bsE ms L = blkL ms (fun x i => fiQ (ms.getD x md0) i) L
  | 0 => rfl
  | L + 1 => by rw [bsE, blkL, bsE_blk ms L]; rfl
theorem bsM_blk (n : Nat) (ms : List Md) : ∀ L, bsM n ms L = blkL ms (fun x i => rowP n ms x i (sz4 ms x)) L
  | 0 => rfl
  | L + 1 => by rw [bsM, blkL, bsM_blk n ms L]
theorem bsY_blk (ms : List Md) : ∀ L, bsY ms L = blkL ms (fun x i => sayC (ms.getD x md0) i ((ms.getD x md0).say.getD i []).length) L
  | 0 => rfl
  | L + 1 => by rw [bsY, blkL, bsY_blk ms L]; rfl
theorem sumTo_ind (q : Nat → Rat) (a b : Nat) : ∀ n, a + b ≤ n → sumTo (fun c => if a ≤ c ∧ c < a + b then q (c - a) else 0) n = sumTo q b := by
  intro n hn
  obtain ⟨d, rfl⟩ : ∃ d, n = a + b + d := ⟨n - (a + b), by omega⟩
  rw [sumTo_split, sumTo_split]
  rw [sumTo_none (n := a) fun i hi => if_neg (by omega), Rat.zero_add, sumTo_none (n := d) fun i hi => if_neg (by omega), Rat.add_zero]
  exact sumTo_congr _ fun i hi => by rw [if_pos (by omega), Nat.add_sub_cancel_left]
theorem sumR_rowP {n : Nat} {ms : List Md} {x i j : Nat} (h : offN ms x + j ≤ n) : sumR (rowP n ms x i j) = sumTo (mvQ ms x i) j := by
  unfold rowP; rw [sumR_range, sumTo_ind _ _ _ _ h]
def jnP (n : Nat) (ms : List Md) (x i j : Nat) : List Rat := (List.range n).map fun c => if offN ms x ≤ c ∧ c < offN ms x + sz4 ms x then mvQ ms x i (c - offN ms x) else if offN ms (x + 1) ≤ c ∧ c < offN ms (x + 1) + j then fiQ (ms.getD x md0) i * stQ (ms.getD (x + 1) md0) (c - offN ms (x + 1)) else 0
theorem jnP_len (n : Nat) (ms : List Md) (x i j : Nat) : (jnP n ms x i j).length = n := by simp [jnP]
theorem jnP_zero (n : Nat) (ms : List Md) (x i : Nat) : jnP n ms x i 0 = rowP n ms x i (sz4 ms x) := by
  unfold jnP rowP
  refine List.map_congr_left fun c _ => ?_
  split
  · rfl
  · rw [if_neg (by omega)]
theorem jnP_set {n : Nat} {ms : List Md} {x i j : Nat} (h : offN ms (x + 1) + j < n) : (jnP n ms x i j).set (offN ms (x + 1) + j) (fiQ (ms.getD x md0) i * stQ (ms.getD (x + 1) md0) j) = jnP n ms x i (j + 1) := by
  have ho : offN ms (x + 1) = offN ms x + sz4 ms x := rfl
  refine ext_getD 0 (by rw [List.length_set, jnP_len, jnP_len]) fun c hc => ?_
  rw [List.length_set, jnP_len] at hc
  by_cases e : offN ms (x + 1) + j = c
  · subst e
    rw [getD_set_is (by rw [jnP_len]; exact hc), jnP, range_getD _ _ hc, if_neg (by omega), if_pos (by omega), Nat.add_sub_cancel_left]
  · rw [getD_set_ne' e, jnP, range_getD _ _ hc, jnP, range_getD _ _ hc]
    split
    · rfl
    · by_cases h2 : offN ms (x + 1) ≤ c ∧ c < offN ms (x + 1) + j
      · rw [if_pos h2, if_pos (by omega)]
      · rw [if_neg h2, if_neg (by omega)]
theorem sumR_jnP {n : Nat} {ms : List Md} {x i j : Nat} (h : offN ms (x + 1) + j ≤ n) : sumR (jnP n ms x i j) = sumTo (mvQ ms x i) (sz4 ms x) + fiQ (ms.getD x md0) i * sumTo (stQ (ms.getD (x + 1) md0)) j := by
  have ho : offN ms (x + 1) = offN ms x + sz4 ms x := rfl
  unfold jnP
  rw [sumR_range, ← sumTo_ind (mvQ ms x i) (offN ms x) (sz4 ms x) n (by omega), Rat.mul_comm, ← sumTo_mulc, ← sumTo_ind (fun k => stQ (ms.getD (x + 1) md0) k * fiQ (ms.getD x md0) i) (offN ms (x + 1)) j n h, ← sumTo_plus]
  refine sumTo_congr _ fun c _ => ?_
  split
  · rw [if_neg (by omega), Rat.add_zero]
  · rw [Rat.zero_add]; split
    · exact Rat.mul_comm ..
    · rfl
def nxN (ms : List Md) (x : Nat) : Nat := if x + 1 < ms.length then sz4 ms (x + 1) else 0
def joinM (n : Nat) (ms : List Md) : List (List Rat) := blkL ms (fun x i => jnP n ms x i (nxN ms x)) ms.length
def joinF (ms : List Md) : List Rat := blkL ms (fun x i => if x + 1 < ms.length then 0 else fiQ (ms.getD x md0) i) ms.length
def joinS (ms : List Md) : List Rat := blkL ms (fun x i => if x = 0 then stQ (ms.getD 0 md0) i else 0) ms.length
def joinE (ms : List Md) : Int := if beginE ms ≠ 0 then beginE ms else if 40 < offN ms ms.length then 5 else 0
def joinMd (ms : List Md) : Md := mdK (joinS ms) (joinM (beginN ms) ms) (joinF ms) (bsY ms ms.length)
def joinR (ms : List Md) : Md := if joinE ms = 0 then joinMd ms else md0
section
variable {ms : List Md}
theorem join_err (h : beginE ms ≠ 0) : joinE ms = beginE ms := by unfold joinE; rw [if_pos h]
theorem join_long (h : beginE ms = 0) (h3 : 40 < offN ms ms.length) : joinE ms = 5 := by unfold joinE; rw [if_neg (fun e => e h), if_pos h3]
theorem join_ok (h : beginE ms = 0) (h3 : ¬ 40 < offN ms ms.length) : joinE ms = 0 := by unfold joinE; rw [if_neg (fun e => e h), if_neg h3]
theorem joinR_none (h : joinE ms ≠ 0) : joinR ms = md0 := if_neg h
theorem joinS_len : (joinS ms).length = offN ms ms.length := blk_len ..
theorem joinF_len : (joinF ms).length = offN ms ms.length := blk_len ..
theorem joinM_len {n : Nat} : (joinM n ms).length = offN ms ms.length := blk_len ..
theorem joinS_at {x i : Nat} {d : Rat} (hx : x < ms.length) (hi : i < sz4 ms x) : (joinS ms).getD (offN ms x + i) d = if x = 0 then stQ (ms.getD 0 md0) i else 0 := blk_at hi hx
theorem joinF_at {x i : Nat} {d : Rat} (hx : x < ms.length) (hi : i < sz4 ms x) : (joinF ms).getD (offN ms x + i) d = if x + 1 < ms.length then 0 else fiQ (ms.getD x md0) i := blk_at hi hx
theorem joinM_at {n x i : Nat} {d : List Rat} (hx : x < ms.length) (hi : i < sz4 ms x) : (joinM n ms).getD (offN ms x + i) d = jnP n ms x i (nxN ms x) := blk_at hi hx
end
theorem dist_K {l : List Rat} : distF (l.map frK) = true ↔ (∀ i, 0 ≤ l.getD i 0) ∧ sumR l = 1 := by
  rw [dist_iff, sumF_K]
  constructor
  · rintro ⟨a, b⟩; exact ⟨fun i => by have := a i; rwa [getD_K'] at this, b⟩
  · rintro ⟨a, b⟩; exact ⟨fun i => by rw [getD_K']; exact a i, b⟩
theorem map_getDR (l : List (List Rat)) (i : Nat) : (l.map (·.map frK)).getD i [] = (l.getD i []).map frK := by
  rw [List.getD_eq_getElem?_getD, List.getElem?_map, List.getD_eq_getElem?_getD]
  cases l[i]? <;> rfl
theorem map_getDK {l : List Rat} {i : Nat} (h : i < l.length) : (l.map frK).getD i fr0 = frK (l.getD i 0) := by
  rw [List.getD_eq_getElem?_getD, List.getElem?_map, List.getD_eq_getElem?_getD, List.getElem?_eq_getElem h]; rfl
structure VK (n k : Nat) (S : List Rat) (M : List (List Rat)) (E : List Rat) (Y : List (List Rat)) : Prop where
  n1 : 1 ≤ n
  k1 : 1 ≤ k
  l : S.length = n ∧ M.length = n ∧ E.length = n ∧ Y.length = n
  r : ∀ i, i < n → (M.getD i []).length = n ∧ (Y.getD i []).length = k
  s : (∀ i, i < n → 0 ≤ S.getD i 0) ∧ sumR S = 1
  m : ∀ i, i < n → (∀ j, j < n → 0 ≤ (M.getD i []).getD j 0) ∧ 0 ≤ E.getD i 0 ∧ sumR (M.getD i []) + E.getD i 0 = 1
  y : ∀ i, i < n → (∀ j, 0 ≤ (Y.getD i []).getD j 0) ∧ sumR (Y.getD i []) = 1
theorem nn_pad {l : List Rat} (h : ∀ i, i < l.length → 0 ≤ l.getD i 0) (i : Nat) : 0 ≤ l.getD i 0 := by
  by_cases hi : i < l.length
  · exact h i hi
  · rw [List.getD_eq_getElem?_getD, List.getElem?_eq_none (by omega)]; exact Rat.le_refl
theorem VK.valid {n k : Nat} {S : List Rat} {M : List (List Rat)} {E : List Rat} {Y : List (List Rat)} (v : VK n k S M E Y) : validM (mdK S M E Y) = true := by
  obtain ⟨l1, l2, l3, l4⟩ := v.l
  have n1 := v.n1
  have hsy : symb (mdK S M E Y) = k := by
    show ((Y.map (·.map frK)).getD 0 []).length = k
    rw [map_getDR, List.length_map]; exact (v.r 0 (by omega)).2
  rw [validM_iff]
  refine ⟨?_, ?_, ?_⟩
  · show 1 ≤ (S.map frK).length ∧ (E.map frK).length = (S.map frK).length ∧ (M.map (·.map frK)).length = (S.map frK).length ∧ (Y.map (·.map frK)).length = (S.map frK).length
    simp only [List.length_map]; omega
  · show distF (S.map frK) = true
    exact dist_K.2 ⟨nn_pad fun i hi => v.s.1 i (by omega), v.s.2⟩
  · rw [List.all_eq_true]
    intro i hi
    have hi : i < n := by have := List.mem_range.1 hi; rw [show (mdK S M E Y).start.length = S.length from List.length_map _, l1] at this; exact this
    obtain ⟨r1, r2⟩ := v.r i hi
    obtain ⟨m1, m2, m3⟩ := v.m i hi
    have hM : (mdK S M E Y).move.getD i [] = (M.getD i []).map frK := map_getDR M i
    have hY : (mdK S M E Y).say.getD i [] = (Y.getD i []).map frK := map_getDR Y i
    have hE : (mdK S M E Y).fin.getD i fr0 = frK (E.getD i 0) := map_getDK (by omega)
    have hL : leaveM (mdK S M E Y) i = (M.getD i [] ++ [E.getD i 0]).map frK := by unfold leaveM; rw [hM, hE, List.map_append]; rfl
    unfold rowM
    simp only [Bool.and_eq_true, decide_eq_true_eq]
    rw [hM, hY, hsy, hL, List.length_map, List.length_map]
    refine ⟨⟨⟨⟨?_, r2⟩, v.k1⟩, ?_⟩, ?_⟩
    · show _ = (S.map frK).length; rw [List.length_map, l1]; exact r1
    · refine dist_K.2 ⟨nn_pad fun j hj => ?_, ?_⟩
      · rw [List.length_append, r1] at hj
        rw [List.getD_eq_getElem?_getD]
        by_cases e : j < n
        · rw [List.getElem?_append_left (by omega), ← List.getD_eq_getElem?_getD]; exact m1 j e
        · rw [List.getElem?_append_right (by omega), r1, show j - n = 0 by have : j < n + 1 := hj; omega]; exact m2
      · rw [sumR_append, show sumR [E.getD i 0] = 0 + E.getD i 0 from rfl, Rat.zero_add]; exact m3
    · exact dist_K.2 (v.y i hi)
end Go.Ear
