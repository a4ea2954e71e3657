/- F7: a part of the proofs about package model: how the program's functions run, and what they compute, for every input. -/
import Derived.Test.YtpmndikbfalfoaaGreatF5
import Derived.Test.YtpmndikbfalfoaaGreatEarT19
set_option linter.all false
set_option linter.unusedVariables false
set_option maxRecDepth 20000
namespace Go.E3
open Go Go.Ear Go.Proofs
theorem swp_j {l : List Int} {j : Nat} (h : j + 1 < l.length) : (swp l j).getD j 0 = l.getD (j + 1) 0 := by
  unfold swp; rw [getD_set _ _ _ (by rw [List.length_set]; omega), if_pos rfl]
theorem swp_j1 {l : List Int} {j : Nat} (h : j + 1 < l.length) : (swp l j).getD (j + 1) 0 = l.getD j 0 := by
  unfold swp; rw [getD_set _ _ _ (by rw [List.length_set]; omega), if_neg (by omega), getD_set _ _ _ h, if_pos rfl]
theorem swp_ne {l : List Int} {j p : Nat} (h : j + 1 < l.length) (h1 : p ≠ j) (h2 : p ≠ j + 1) : (swp l j).getD p 0 = l.getD p 0 := by
  unfold swp; rw [getD_set _ _ _ (by rw [List.length_set]; omega), if_neg h1, getD_set _ _ _ h, if_neg h2]
theorem bub_hi (c : Int → Int → Int) : ∀ j (l : List Int) p, j < p → j < l.length → (bub c j l).getD p 0 = l.getD p 0
  | 0, l, p, _, _ => rfl
  | j + 1, l, p, h, hl => by
    rw [bub]; split
    · rw [bub_hi c j _ p (by omega) (by rw [swp_len]; omega), swp_ne hl (by omega) (by omega)]
    · rfl
theorem bub_pre {Q : Int → Prop} (c : Int → Int → Int) : ∀ j (l : List Int), j < l.length → (∀ p, p ≤ j → Q (l.getD p 0)) → ∀ p, p ≤ j → Q ((bub c j l).getD p 0)
  | 0, l, _, h => h
  | j + 1, l, hl, h => fun p hp => by
    rw [bub]; split
    · by_cases e : p = j + 1
      · subst e
        rw [bub_hi c j _ _ (by omega) (by rw [swp_len]; omega), swp_j1 hl]; exact h j (by omega)
      · refine bub_pre (Q := Q) c j _ (by rw [swp_len]; omega) (fun p hp => ?_) p (by omega)
        by_cases e : p = j
        · subst e; rw [swp_j hl]; exact h _ (Nat.le_refl _)
        · rw [swp_ne hl e (by omega)]; exact h p (by omega)
    · exact h p hp
theorem swp_perm {l : List Int} {j : Nat} (h : j + 1 < l.length) : (swp l j).Perm l := by
  have h0 : j < l.length := by omega
  have e : swp l j = (l.set (j + 1) l[j]).set j l[j + 1] := by
    unfold swp
    rw [List.getD_eq_getElem?_getD, List.getElem?_eq_getElem h0, List.getD_eq_getElem?_getD, List.getElem?_eq_getElem h]; rfl
  rw [e]; exact List.set_set_perm h h0
theorem bub_perm (c : Int → Int → Int) : ∀ j (l : List Int), j < l.length → (bub c j l).Perm l
  | 0, l, _ => .refl _
  | j + 1, l, h => by
    rw [bub]; split
    · exact (bub_perm c j _ (by rw [swp_len]; omega)).trans (swp_perm h)
    · exact .refl _
theorem iS_perm (c : Int → Int → Int) (l : List Int) : ∀ k, k < l.length → (iS c l k).Perm l
  | 0, _ => .refl _
  | k + 1, h => (bub_perm c (k + 1) _ (by rw [iS_len]; exact h)).trans (iS_perm c l k (by omega))
def befI (row : List Rat) (j i : Nat) : Prop := row.getD i 0 < row.getD j 0 ∨ (row.getD j 0 = row.getD i 0 ∧ j < i)
instance {row : List Rat} {j i : Nat} : Decidable (befI row j i) := inferInstanceAs (Decidable (_ ∨ _))
theorem befI.trans {row : List Rat} {a b c : Nat} (h : befI row a b) (k : befI row b c) : befI row a c := by
  unfold befI at *
  rcases h with h | ⟨h, h'⟩
  · rcases k with k | ⟨k, k'⟩
    · exact .inl (by grind)
    · exact .inl (by rw [← k]; exact h)
  · rcases k with k | ⟨k, k'⟩
    · exact .inl (by rw [h]; exact k)
    · exact .inr ⟨h.trans k, by omega⟩
theorem befI.asymm {row : List Rat} {a b : Nat} (h : befI row a b) (k : befI row b a) : False := by
  have := h.trans k
  unfold befI at this
  rcases this with h | ⟨_, h⟩
  · exact Rat.lt_irrefl h
  · omega
theorem befN_count (row : List Rat) (i : Nat) : ∀ n, befN row i n = (List.range n).countP (fun j => decide (befI row j i))
  | 0 => rfl
  | n + 1 => by
    rw [befN, List.range_succ, List.countP_append, ← befN_count row i n, List.countP_singleton]
    unfold befI
    split <;> simp_all
section
variable {row : List Rat} {c : Int → Int → Int} (hc : ∀ x y : Int, y.toNat < x.toNat → (c x y < 0 ↔ row.getD y.toNat 0 < row.getD x.toNat 0))
include hc
theorem bub_sorted : ∀ (j : Nat) (l : List Int) (n : Nat), j < n → n ≤ l.length →
    (∀ p q, p < q → q < n → p ≠ j → q ≠ j → befI row (l.getD p 0).toNat (l.getD q 0).toNat) →
    (∀ q, j < q → q < n → befI row (l.getD j 0).toNat (l.getD q 0).toNat) →
    (∀ p, p < n → p ≠ j → (l.getD p 0).toNat < (l.getD j 0).toNat) →
    ∀ p q, p < q → q < n → befI row ((bub c j l).getD p 0).toNat ((bub c j l).getD q 0).toNat
  | 0, l, n, hj, hn, h1, h2, h3 => fun p q hpq hq => by
    rw [bub]
    by_cases e : p = 0
    · subst e; exact h2 q hpq hq
    · exact h1 p q hpq hq e (by omega)
  | j + 1, l, n, hj, hn, h1, h2, h3 => fun p q hpq hq => by
    have hl : j + 1 < l.length := by omega
    have hxy := h3 j (by omega) (by omega)
    rw [bub]
    by_cases hlt : c (l.getD (j + 1) 0) (l.getD j 0) < 0
    · rw [if_pos hlt]
      refine bub_sorted j (swp l j) n (by omega) (by rw [swp_len]; exact hn) (fun p q hpq hq hp hq' => ?_) (fun q hjq hq => ?_) (fun p hp hne => ?_) p q hpq hq
      · by_cases e1 : p = j + 1
        · subst e1
          rw [swp_j1 hl, swp_ne hl (by omega) (by omega)]; exact h1 j q (by omega) hq (by omega) (by omega)
        · by_cases e2 : q = j + 1
          · subst e2
            rw [swp_j1 hl, swp_ne hl hp e1]; exact h1 p j (by omega) (by omega) e1 (by omega)
          · rw [swp_ne hl hp e1, swp_ne hl hq' e2]; exact h1 p q hpq hq e1 e2
      · rw [swp_j hl]
        by_cases e : q = j + 1
        · subst e; rw [swp_j1 hl]; exact .inl ((hc _ _ hxy).1 hlt)
        · rw [swp_ne hl (by omega) e]; exact h2 q (by omega) hq
      · rw [swp_j hl]
        by_cases e : p = j + 1
        · subst e; rw [swp_j1 hl]; exact hxy
        · rw [swp_ne hl hne e]; exact h3 p hp e
    · rw [if_neg hlt]
      have hyx : befI row (l.getD j 0).toNat (l.getD (j + 1) 0).toNat := by
        have h4 : ¬ row.getD (l.getD j 0).toNat 0 < row.getD (l.getD (j + 1) 0).toNat 0 := fun h => hlt ((hc _ _ hxy).2 h)
        unfold befI
        by_cases e : row.getD (l.getD j 0).toNat 0 = row.getD (l.getD (j + 1) 0).toNat 0
        · exact .inr ⟨e, hxy⟩
        · left
          have h5 := Rat.not_lt.1 h4
          exact Rat.lt_of_le_of_ne h5 fun h => e h.symm
      by_cases e1 : p = j + 1
      · subst e1; exact h2 q hpq hq
      · by_cases e2 : q = j + 1
        · subst e2
          by_cases e3 : p = j
          · subst e3; exact hyx
          · exact (h1 p j (by omega) (by omega) e1 (by omega)).trans hyx
        · exact h1 p q hpq hq e1 e2
theorem iS_sorted {S : Nat} : ∀ k, k < S → (∀ p q, p < q → q < k + 1 → befI row ((iS c ((List.range S).map fun i => ((i : Nat) : Int)) k).getD p 0).toNat ((iS c ((List.range S).map fun i => ((i : Nat) : Int)) k).getD q 0).toNat) ∧ (∀ p, p ≤ k → ((iS c ((List.range S).map fun i => ((i : Nat) : Int)) k).getD p 0).toNat ≤ k) ∧ ∀ p, k < p → p < S → (iS c ((List.range S).map fun i => ((i : Nat) : Int)) k).getD p 0 = ((p : Nat) : Int)
  | 0, h => by
    have e : ∀ p, p < S → (iS c ((List.range S).map fun i => ((i : Nat) : Int)) 0).getD p 0 = ((p : Nat) : Int) := fun p hp => range_getD _ _ hp
    exact ⟨fun p q hpq hq => by omega, fun p hp => by rw [show p = 0 by omega, e 0 h]; exact Nat.le_refl _, fun p _ hp => e p hp⟩
  | k + 1, h => by
    obtain ⟨h1, h2, h3⟩ := iS_sorted (S := S) k (by omega)
    have hlen : (iS c ((List.range S).map fun i => ((i : Nat) : Int)) k).length = S := by rw [iS_len]; simp
    have hx := h3 (k + 1) (by omega) h
    rw [iS]
    generalize iS c ((List.range S).map fun i => ((i : Nat) : Int)) k = l at *
    have hxn : (l.getD (k + 1) 0).toNat = k + 1 := by rw [hx]; rfl
    refine ⟨bub_sorted hc (k + 1) l (k + 1 + 1) (by omega) (by omega) (fun p q hpq hq hp hq' => h1 p q hpq (by omega)) (fun q hq hq' => by omega) (fun p hp hne => ?_), bub_pre (Q := fun x => x.toNat ≤ k + 1) c (k + 1) l (by omega) (fun p hp => ?_), fun p hp hpS => ?_⟩
    · rw [hxn]; have := h2 p (by omega); omega
    · by_cases e : p = k + 1
      · subst e; show (l.getD (k + 1) 0).toNat ≤ k + 1; omega
      · have := h2 p (by omega); show (l.getD p 0).toNat ≤ k + 1; omega
    · rw [bub_hi c (k + 1) l p hp (by omega)]; exact h3 p (by omega) hpS
theorem rank {S : Nat} (hS : 0 < S) {q : Nat} (hq : q < S) : befN row ((iS c ((List.range S).map fun i => ((i : Nat) : Int)) (S - 1)).getD q 0).toNat S = q := by
  obtain ⟨h1, h2, _⟩ := iS_sorted hc (S := S) (S - 1) (by omega)
  have hp := iS_perm c ((List.range S).map fun i => ((i : Nat) : Int)) (S - 1) (by simp; omega)
  have hlen : (iS c ((List.range S).map fun i => ((i : Nat) : Int)) (S - 1)).length = S := by rw [iS_len]; simp
  generalize iS c ((List.range S).map fun i => ((i : Nat) : Int)) (S - 1) = l at *
  rw [befN_count]
  have e1 : (List.range S).countP (fun j => decide (befI row j (l.getD q 0).toNat)) = ((List.range S).map fun i => ((i : Nat) : Int)).countP (fun x => decide (befI row x.toNat (l.getD q 0).toNat)) := by
    rw [List.countP_map]; rfl
  rw [e1, ← hp.countP_eq, ← List.take_append_drop q l, List.countP_append]
  have e2 : (l.take q).countP (fun x => decide (befI row x.toNat ((l.take q ++ l.drop q).getD q 0).toNat)) = (l.take q).length := by
    rw [List.take_append_drop]
    refine List.countP_eq_length.2 fun x hx => ?_
    obtain ⟨p, hpl, rfl⟩ := List.getElem_of_mem hx
    rw [List.length_take] at hpl
    have h4 := h1 p q (by omega) (by omega)
    rw [List.getElem_take]
    rw [List.getD_eq_getElem?_getD (l := l) (i := p), List.getElem?_eq_getElem (by omega)] at h4
    exact decide_eq_true h4
  have e3 : (l.drop q).countP (fun x => decide (befI row x.toNat ((l.take q ++ l.drop q).getD q 0).toNat)) = 0 := by
    rw [List.take_append_drop]
    refine List.countP_eq_zero.2 fun x hx => ?_
    obtain ⟨p, hpl, rfl⟩ := List.getElem_of_mem hx
    rw [List.length_drop] at hpl
    rw [List.getElem_drop]
    intro h
    have h := of_decide_eq_true h
    by_cases e : p = 0
    · subst e
      rw [List.getD_eq_getElem?_getD, List.getElem?_eq_getElem (show q < l.length by omega)] at h
      exact h.asymm h
    · have h4 := h1 q (q + p) (by omega) (by omega)
      rw [List.getD_eq_getElem?_getD (l := l) (i := q + p), List.getElem?_eq_getElem (show q + p < l.length by omega)] at h4
      exact h4.asymm h
  rw [e2, e3, List.length_take]; omega
theorem rank_inv {S i : Nat} (hi : i < S) : (iS c ((List.range S).map fun i => ((i : Nat) : Int)) (S - 1)).getD (befN row i S) 0 = ((i : Nat) : Int) := by
  have hp := iS_perm c ((List.range S).map fun i => ((i : Nat) : Int)) (S - 1) (by simp; omega)
  have hlen : (iS c ((List.range S).map fun i => ((i : Nat) : Int)) (S - 1)).length = S := by rw [iS_len]; simp
  have hm : ((i : Nat) : Int) ∈ iS c ((List.range S).map fun i => ((i : Nat) : Int)) (S - 1) := hp.mem_iff.2 (List.mem_map.2 ⟨i, List.mem_range.2 hi, rfl⟩)
  obtain ⟨q, hq, he⟩ := List.getElem_of_mem hm
  have h1 := rank hc (S := S) (by omega) (q := q) (by omega)
  have h2 : (iS c ((List.range S).map fun i => ((i : Nat) : Int)) (S - 1)).getD q 0 = ((i : Nat) : Int) := by rw [List.getD_eq_getElem?_getD, List.getElem?_eq_getElem hq]; exact he
  rw [h2] at h1
  have h3 : befN row i S = q := h1
  rw [h3]; exact h2
theorem ord_at {S q : Nat} (hq : q < S) : 0 ≤ (iS c ((List.range S).map fun i => ((i : Nat) : Int)) (S - 1)).getD q 0 ∧ ((iS c ((List.range S).map fun i => ((i : Nat) : Int)) (S - 1)).getD q 0).toNat < S := by
  have hp := iS_perm c ((List.range S).map fun i => ((i : Nat) : Int)) (S - 1) (by simp; omega)
  have hlen : (iS c ((List.range S).map fun i => ((i : Nat) : Int)) (S - 1)).length = S := by rw [iS_len]; simp
  have hm := getD_mem' (iS c ((List.range S).map fun i => ((i : Nat) : Int)) (S - 1)) 0 (show q < _ by omega)
  obtain ⟨a, ha, he⟩ := List.mem_map.1 (hp.mem_iff.1 hm)
  have := List.mem_range.1 ha
  rw [← he]; omega
end
def mkN (row : List Rat) (S n : Nat) : List Bool := (List.range S).map fun i => decide (befN row i S < n)
def lsN (row : List Rat) (S n : Nat) : List Rat := (List.range S).map fun i => if befN row i S < n then row.getD i 0 else 0
theorem mkN_len (row : List Rat) (S n : Nat) : (mkN row S n).length = S := by simp [mkN]
theorem lsN_len (row : List Rat) (S n : Nat) : (lsN row S n).length = S := by simp [lsN]
theorem mkN_zero (row : List Rat) (S : Nat) : mkN row S 0 = List.replicate S false := by
  unfold mkN
  rw [List.eq_replicate_iff]
  exact ⟨by simp, fun b hb => by obtain ⟨i, _, rfl⟩ := List.mem_map.1 hb; exact decide_eq_false (Nat.not_lt_zero _)⟩
theorem lsN_zero (row : List Rat) (S : Nat) : lsN row S 0 = List.replicate S 0 := by
  unfold lsN
  rw [List.eq_replicate_iff]
  exact ⟨by simp, fun b hb => by obtain ⟨i, _, rfl⟩ := List.mem_map.1 hb; exact if_neg (Nat.not_lt_zero _)⟩
section
variable {row : List Rat} {c : Int → Int → Int} (hc : ∀ x y : Int, y.toNat < x.toNat → (c x y < 0 ↔ row.getD y.toNat 0 < row.getD x.toNat 0))
include hc
theorem rank_iff {S n i : Nat} (hn : n < S) (hi : i < S) : befN row i S = n ↔ i = ((iS c ((List.range S).map fun i => ((i : Nat) : Int)) (S - 1)).getD n 0).toNat := by
  constructor
  · intro h
    have := rank_inv hc hi
    rw [h] at this
    rw [this]; rfl
  · rintro rfl
    exact rank hc (by omega) hn
theorem mkN_next {S n : Nat} (hn : n < S) : (mkN row S n).set ((iS c ((List.range S).map fun i => ((i : Nat) : Int)) (S - 1)).getD n 0).toNat true = mkN row S (n + 1) := by
  have hx := (ord_at hc hn).2
  have hr := fun i (hi : i < S) => rank_iff hc hn hi
  generalize ((iS c ((List.range S).map fun i => ((i : Nat) : Int)) (S - 1)).getD n 0).toNat = x at *
  refine ext_getD false (by rw [List.length_set, mkN_len, mkN_len]) fun i hi => ?_
  rw [List.length_set, mkN_len] at hi
  rw [getD_set _ _ _ (by rw [mkN_len]; exact hx)]
  have h1 : (mkN row S (n + 1)).getD i false = decide (befN row i S < n + 1) := range_getD _ _ hi
  have h2 : (mkN row S n).getD i false = decide (befN row i S < n) := range_getD _ _ hi
  have h3 := hr i hi
  rw [h1, h2]
  by_cases e : i = x
  · rw [if_pos e, decide_eq_true]; have := h3.2 e; omega
  · rw [if_neg e]
    refine decide_eq_decide.2 ?_
    have : befN row i S ≠ n := fun h => e (h3.1 h)
    omega
theorem lsN_next {S n : Nat} (hn : n < S) : (lsN row S n).set ((iS c ((List.range S).map fun i => ((i : Nat) : Int)) (S - 1)).getD n 0).toNat (row.getD ((iS c ((List.range S).map fun i => ((i : Nat) : Int)) (S - 1)).getD n 0).toNat 0) = lsN row S (n + 1) := by
  have hx := (ord_at hc hn).2
  have hr := fun i (hi : i < S) => rank_iff hc hn hi
  generalize ((iS c ((List.range S).map fun i => ((i : Nat) : Int)) (S - 1)).getD n 0).toNat = x at *
  refine ext_getD 0 (by rw [List.length_set, lsN_len, lsN_len]) fun i hi => ?_
  rw [List.length_set, lsN_len] at hi
  rw [getD_set _ _ _ (by rw [lsN_len]; exact hx)]
  have h1 : (lsN row S (n + 1)).getD i 0 = if befN row i S < n + 1 then row.getD i 0 else 0 := range_getD _ _ hi
  have h2 : (lsN row S n).getD i 0 = if befN row i S < n then row.getD i 0 else 0 := range_getD _ _ hi
  have h3 := hr i hi
  rw [h1, h2]
  by_cases e : i = x
  · rw [if_pos e, if_pos (by have := h3.2 e; omega), e]
  · have : befN row i S ≠ n := fun h => e (h3.1 h)
    rw [if_neg e]
    by_cases h : befN row i S < n
    · rw [if_pos h, if_pos (by omega)]
    · rw [if_neg h, if_neg (by omega)]
end
theorem mk_end {row : List Rat} {S n : Nat} {keep : Int} (hl : row.length = S) (h1 : n = 0 ∨ (n : Int) ≤ keep) (hn : n = S ∨ keep ≤ (n : Int)) : mkN row S n = (List.range S).map (fun i => decide ((befN row i row.length : Int) < keep)) ∧ lsN row S n = keptR row keep := by
  have key : ∀ i, i < S → (befN row i S < n ↔ (befN row i S : Int) < keep) := fun i hi => by
    have := befN_lt row i S hi
    omega
  refine ⟨?_, ?_⟩
  · unfold mkN; rw [hl]
    exact List.map_congr_left fun i hi => decide_eq_decide.2 (key i (List.mem_range.1 hi))
  · unfold lsN keptR; rw [hl]
    refine List.map_congr_left fun i hi => ?_
    have := key i (List.mem_range.1 hi)
    by_cases h : befN row i S < n
    · rw [if_pos h, if_pos (this.1 h)]
    · rw [if_neg h, if_neg fun h2 => h (this.2 h2)]
end Go.E3
