/- P9: a part of the proofs about package model: how the program's functions run, and what they compute, for every input. -/
import Derived.Test.YtpmndikbfalfoaaGreatP8
set_option linter.all false
set_option linter.unusedVariables false
namespace Go.Ear
theorem at_split {α : Type} {ms : List Md} {f : Nat → Nat → α} {d : α} {p : α → Prop} (hd : p d) (hf : ∀ x i, x < ms.length → i < sz4 ms x → p (f x i)) (r : Nat) : p ((blkL ms f ms.length).getD r d) := by
  by_cases h : r < offN ms ms.length
  · obtain ⟨x, i, hx, hi, rfl⟩ := off_split ms _ r h
    rw [blk_at hi hx]; exact hf x i hx hi
  · rw [List.getD_eq_getElem?_getD, List.getElem?_eq_none (by rw [blk_len]; omega)]; exact hd
theorem bq0 {W : Nat} (h : 1 ≤ W) : bq (0 : Rat) ≤ W := by rw [bq_zero]; exact h
theorem range_bq {f : Nat → Rat} {W n : Nat} (hW : 1 ≤ W) (h : ∀ c, bq (f c) ≤ W) (j : Nat) : bq (((List.range n).map f).getD j 0) ≤ W := by
  by_cases hj : j < n
  · rw [range_getD _ _ hj]; exact h j
  · rw [List.getD_eq_getElem?_getD, List.getElem?_eq_none (by simp; omega)]; exact bq0 hW
section
variable {ms : List Md} (h : ∀ x, MdW 2 (ms.getD x md0))
include h
theorem joinS_bq (r : Nat) : bq ((joinS ms).getD r 0) ≤ 4 := at_split (p := fun q => bq q ≤ 4) (bq0 (by decide)) (fun x i _ _ => by
  split
  · exact Nat.le_trans ((h 0).st i) (by decide)
  · exact bq0 (by decide)) r
theorem joinF_bq (r : Nat) : bq ((joinF ms).getD r 0) ≤ 4 := at_split (p := fun q => bq q ≤ 4) (bq0 (by decide)) (fun x i _ _ => by
  split
  · exact bq0 (by decide)
  · exact Nat.le_trans ((h x).fi i) (by decide)) r
theorem jnP_bq (n x i j c : Nat) : bq ((jnP n ms x i j).getD c 0) ≤ 4 := range_bq (by decide) (fun c => by
  split
  · exact Nat.le_trans ((h x).mv i _) (by decide)
  · split
    · exact Nat.le_trans (bq_mul _ _) (Nat.add_le_add ((h x).fi i) ((h (x + 1)).st _))
    · exact bq0 (by decide)) c
theorem rowP_bq (n x i j c : Nat) : bq ((rowP n ms x i j).getD c 0) ≤ 4 := range_bq (by decide) (fun c => by
  split
  · exact Nat.le_trans ((h x).mv i _) (by decide)
  · exact bq0 (by decide)) c
theorem joinM_bq (n r c : Nat) : bq (((joinM n ms).getD r []).getD c 0) ≤ 4 := at_split (p := fun (l : List Rat) => bq (l.getD c 0) ≤ 4) (bq0 (by decide)) (fun x i _ _ => jnP_bq h n x i _ c) r
theorem bsM_bq (n r c : Nat) : bq (((bsM n ms ms.length).getD r []).getD c 0) ≤ 4 := by
  rw [bsM_blk]; exact at_split (p := fun (l : List Rat) => bq (l.getD c 0) ≤ 4) (bq0 (by decide)) (fun x i _ _ => rowP_bq h n x i _ c) r
theorem bsE_bq (r : Nat) : bq ((bsE ms ms.length).getD r 0) ≤ 4 := by
  rw [bsE_blk]; exact at_split (p := fun q => bq q ≤ 4) (bq0 (by decide)) (fun x i _ _ => Nat.le_trans ((h x).fi i) (by decide)) r
theorem bsY_bq (r c : Nat) : bq (((bsY ms ms.length).getD r []).getD c 0) ≤ 4 := by
  rw [bsY_blk]; exact at_split (p := fun (l : List Rat) => bq (l.getD c 0) ≤ 4) (bq0 (by decide)) (fun x i _ _ => range_bq (by decide) (fun c => Nat.le_trans ((h x).sy i c) (by decide)) c) r
theorem mixS_bq {ws : List Fr} {W : Nat} (hw : ∀ x, bq (ws.getD x fr0).rat ≤ W) (r : Nat) : bq ((mixS ws ms ms.length).getD r 0) ≤ W + 2 := by
  rw [mixS_blk]; exact at_split (p := fun q => bq q ≤ W + 2) (bq0 (by omega)) (fun x i _ _ => Nat.le_trans (bq_mul _ _) (Nat.add_le_add (hw x) ((h x).st i))) r
end
theorem mdK_W {S E : List Rat} {M Y : List (List Rat)} {W : Nat} (h1 : ∀ i, bq (S.getD i 0) ≤ W) (h2 : ∀ i j, bq ((M.getD i []).getD j 0) ≤ W) (h3 : ∀ i, bq (E.getD i 0) ≤ W) (h4 : ∀ i j, bq ((Y.getD i []).getD j 0) ≤ W) : MdW W (mdK S M E Y) :=
  ⟨fun i => by have := h1 i; rw [← stK (M := M) (E := E) (Y := Y)] at this; exact this, fun i j => by have := h2 i j; rw [← mvK (S := S) (E := E) (Y := Y)] at this; exact this, fun i => by have := h3 i; rw [← fiK (S := S) (M := M) (Y := Y)] at this; exact this, fun i j => by have := h4 i j; rw [← syK (S := S) (M := M) (E := E)] at this; exact this⟩
theorem wts_le2 {B : Nat} : ∀ {l : List Rat}, (∀ q ∈ l, bq q ≤ B) → wts (l.map frK) ≤ (B + 1) * l.length
  | [], _ => Nat.le_refl _
  | q :: l, h => by
    have h1 := h q (List.mem_cons_self ..)
    have h2 := wts_le2 (B := B) (l := l) fun g hg => h g (List.mem_cons_of_mem _ hg)
    rw [List.map_cons, wts_cons, List.length_cons, Nat.mul_succ, bf_frK]; omega
theorem wts_K2 {l : List Rat} {B : Nat} (h : ∀ i, bq (l.getD i 0) ≤ B) : wts (l.map frK) ≤ (B + 1) * l.length := wts_le2 fun q hq => by
  obtain ⟨i, hi, rfl⟩ := List.getElem_of_mem hq
  have := h i
  rwa [List.getD_eq_getElem?_getD, List.getElem?_eq_getElem hi] at this
theorem wts_R2 {l : List (List Rat)} {B N K : Nat} (h : ∀ i j, bq ((l.getD i []).getD j 0) ≤ B) (hn : ∀ i, i < l.length → (l.getD i []).length ≤ N) (hK : (B + 1) * N ≤ K) : ∀ r ∈ l.map (·.map frK), wts r ≤ K := fun r hr => by
  obtain ⟨q, hq, rfl⟩ := List.mem_map.1 hr
  obtain ⟨i, hi, rfl⟩ := List.getElem_of_mem hq
  have h1 := h i
  have h2 := hn i hi
  rw [List.getD_eq_getElem?_getD, List.getElem?_eq_getElem hi] at h1 h2
  exact Nat.le_trans (wts_K2 h1) (Nat.le_trans (Nat.mul_le_mul_left _ h2) hK)
theorem VK.B {n k : Nat} {S : List Rat} {M : List (List Rat)} {E : List Rat} {Y : List (List Rat)} (v : VK n k S M E Y) {W K : Nat} (hn : n ≤ 64) (hk : k ≤ 70) (w : MdW W (mdK S M E Y)) (hK : (W + 1) * 70 ≤ K) : MdB K (mdK S M E Y) := by
  have w1 : ∀ i, bq (S.getD i 0) ≤ W := fun i => by rw [← stK (M := M) (E := E) (Y := Y)]; exact w.st i
  have w2 : ∀ i j, bq ((M.getD i []).getD j 0) ≤ W := fun i j => by rw [← mvK (S := S) (E := E) (Y := Y)]; exact w.mv i j
  have w3 : ∀ i, bq (E.getD i 0) ≤ W := fun i => by rw [← fiK (S := S) (M := M) (Y := Y)]; exact w.fi i
  have w4 : ∀ i j, bq ((Y.getD i []).getD j 0) ≤ W := fun i j => by rw [← syK (S := S) (M := M) (E := E)]; exact w.sy i j
  have hl := v.l
  refine ⟨?_, ?_, ?_, ?_⟩
  · exact Nat.le_trans (wts_K2 w1) (Nat.le_trans (Nat.mul_le_mul_left _ (by omega)) hK)
  · exact wts_R2 w2 (fun i hi => by have := (v.r i (by omega)).1; omega) hK
  · exact Nat.le_trans (wts_K2 w3) (Nat.le_trans (Nat.mul_le_mul_left _ (by omega)) hK)
  · exact wts_R2 w4 (fun i hi => by have := (v.r i (by omega)).2; omega) hK
theorem VK.symb {n k : Nat} {S : List Rat} {M : List (List Rat)} {E : List Rat} {Y : List (List Rat)} (v : VK n k S M E Y) : Go.Ear.symb (mdK S M E Y) = k := by
  show ((Y.map (·.map frK)).getD 0 []).length = k
  rw [map_getDR, List.length_map]; exact (v.r 0 v.n1).2
theorem VK.long {n k : Nat} {S : List Rat} {M : List (List Rat)} {E : List Rat} {Y : List (List Rat)} (v : VK n k S M E Y) (hn : n ≤ 40) (hk : k ≤ 64) : longM (mdK S M E Y) = false := by
  have h1 : (mdK S M E Y).start.length = n := by show (S.map frK).length = n; rw [List.length_map]; exact v.l.1
  unfold longM
  rw [v.symb, h1]
  simp only [Bool.or_eq_false_iff, decide_eq_false_iff_not, Bool.and_eq_false_iff]
  exact ⟨by omega, .inr (by omega)⟩
theorem heard_of {m : Md} {o : List Int} (h : checkE [m] [o] = 0) : o.any (offS (symb m : Int)) = false := by
  unfold checkE at h
  split at h
  · cases h
  · split at h
    · cases h
    · split at h
      · cases h
      · rename_i c
        rw [Bool.not_eq_true, List.any_eq_false] at c
        have := c o (List.mem_singleton.2 rfl)
        rw [Bool.not_eq_true] at this; exact this
theorem checkE_mk {m : Md} {o : List Int} (hv : validM m = true) (hl : longM m = false) (ho : o.length ≤ 1000) (hh : o.any (offS (symb m : Int)) = false) : checkE [m] [o] = 0 :=
  check_good (by rw [hl]; decide) (by show ¬ 200 < 1; omega) (by
    rw [List.any_eq_false]; intro x hx; rw [List.mem_singleton.1 hx]; unfold longO; simp; omega) hv (by
    rw [List.any_eq_false]; intro x hx; rw [List.mem_singleton.1 hx]; show ¬ o.any (offS (symb m : Int)) = true; rw [hh]; decide)
theorem checkE_nil {ms : List Md} (hv : ∀ m ∈ ms, validM m = true) (hl : ∀ m ∈ ms, longM m = false) : checkE ms [] = 0 :=
  (checkE_ok (by
    rw [Bool.not_eq_true, List.any_eq_false]; intro m hm; rw [hl m hm]; decide) (by decide) (by decide) (by
    rw [Bool.not_eq_true, List.any_eq_false]; intro m hm; unfold notV; rw [hv m hm]; decide) rfl).symm
theorem checkE_nil_bad {ms : List Md} (hl : ∀ m ∈ ms, longM m = false) {m : Md} (hm : m ∈ ms) (hv : validM m ≠ true) : checkE ms [] = 2 :=
  (checkE_bad (by
    rw [Bool.not_eq_true, List.any_eq_false]; intro m hm; rw [hl m hm]; decide) (by decide) (by decide) (by
    rw [List.any_eq_true]; exact ⟨m, hm, by unfold notV; simp [hv]⟩)).symm
end Go.Ear
