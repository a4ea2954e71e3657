/- H18: a part of the proofs about package model: how the program's functions run, and what they compute, for every input. -/
import Derived.Test.YtpmndikbfalfoaaGreatH17
set_option linter.all false
set_option linter.unusedVariables false
namespace Go.E3
open Go Go.Ear Go.Proofs
section
variable {t : Tr} {F : Nat → List Rat} {S W N A : Nat} (h : MdW W t.m) (hs : t.m.start.length ≤ S) (hW : 1 ≤ W) (hS : 1 ≤ S) (hn : t.o.length ≤ N + 1) (hA : 1 ≤ A) (hF : ∀ k i, k < t.o.length → bq ((F k).getD i 0) ≤ A)
include h hs hW hS hn hA hF
theorem rTot_bq : bq (rTot t F) ≤ 1 + S * (A + W + 1) := by
  unfold rTot
  split
  · rw [bq_zero]; omega
  · have h3 := bq_sumTo (q := fun i => (F (t.o.length - 1)).getD i 0 * (t.m.fin.getD i fr0).rat) (B := A + W) t.m.start.length fun i _ => Nat.le_trans (bq_mul _ _) (Nat.add_le_add (hF _ i (by omega)) (h.fi i))
    have h4 := Nat.mul_le_mul_right (A + W + 1) hs
    omega
theorem rbw_bqN {k : Nat} (hk : k < t.o.length) (i : Nat) : bq ((rbw t F k).getD i 0) ≤ bB S W N := Nat.le_trans (rbw_bq h hs hW k i) (bB_mono hS (by omega))
theorem rY_bq (i : Nat) {k : Nat} (hk : k < t.o.length) : bq (rY t F i k) ≤ A + 2 * W + bB S W N + (1 + S * (A + W + 1)) := by
  have h1 := rTot_bq h hs hW hS hn hA hF
  have h2 := rbw_bqN h hs hW hS hn hA hF (show t.o.length - 1 - k < t.o.length by omega) i
  have h3 := hF k i hk
  have h4 := bq_mul ((F k).getD i 0) ((rbw t F (t.o.length - 1 - k)).getD i 0)
  have h5 := bq_div ((F k).getD i 0 * (rbw t F (t.o.length - 1 - k)).getD i 0) (rTot t F)
  unfold rY; omega
theorem rWm_bq (i j : Nat) {k : Nat} (hk : k + 1 < t.o.length) : bq (rWm t F i k j / rTot t F) ≤ A + 2 * W + bB S W N + (1 + S * (A + W + 1)) := by
  have h1 := rTot_bq h hs hW hS hn hA hF
  have h2 := rbw_bqN h hs hW hS hn hA hF (show t.o.length - 1 - (k + 1) < t.o.length by omega) j
  have h3 := hF k i (by omega)
  have h4 := bq_mul ((F k).getD i 0) (moveT t i j)
  have h5 := bq_mul ((F k).getD i 0 * moveT t i j) (sayT t j (k + 1))
  have h6 := bq_mul ((F k).getD i 0 * moveT t i j * sayT t j (k + 1)) ((rbw t F (t.o.length - 1 - (k + 1))).getD j 0)
  have h7 : bq (moveT t i j) ≤ W := h.mv i j
  have h8 : bq (sayT t j (k + 1)) ≤ W := h.sy j _
  have h9 := bq_div (rWm t F i k j) (rTot t F)
  have h0 : bq (rWm t F i k j) ≤ A + W + W + bB S W N := by unfold rWm; omega
  omega
theorem rSay_bq {a : List Rat} {C : Nat} (hC : ∀ x, bq (a.getD x 0) ≤ C) (i : Nat) : ∀ k x, k ≤ t.o.length → bq ((rSay t F i a k).getD x 0) ≤ C + k * (A + 2 * W + bB S W N + (1 + S * (A + W + 1)) + 1)
  | 0, x, _ => by rw [rSay]; have := hC x; omega
  | k + 1, x, hk => by
    have ih := rSay_bq hC i k x (by omega)
    have h2 := rY_bq h hs hW hS hn hA hF i (k := k) (by omega)
    rw [rSay, Nat.succ_mul]
    by_cases e : (t.o.getD k 0).toNat = x
    · subst e
      by_cases hx : (t.o.getD k 0).toNat < (rSay t F i a k).length
      · rw [getD_set_is hx]
        have := bq_add ((rSay t F i a k).getD (t.o.getD k 0).toNat 0) (rY t F i k); omega
      · rw [List.getD_eq_getElem?_getD, List.getElem?_eq_none (by rw [List.length_set]; omega)]
        have : bq (0 : Rat) = 1 := bq_zero
        show bq (0 : Rat) ≤ _; omega
    · rw [getD_set_ne' e]; omega
theorem rMov_bq {a : List Rat} {C : Nat} (hC : ∀ x, bq (a.getD x 0) ≤ C) (i : Nat) : ∀ k j, k < t.o.length → bq ((rMov t F i a k).getD j 0) ≤ C + k * (A + 2 * W + bB S W N + (1 + S * (A + W + 1)) + 1)
  | 0, j, _ => by rw [rMov]; have := hC j; omega
  | k + 1, j, hk => by
    have ih := rMov_bq hC i k j (by omega)
    have h2 := rWm_bq h hs hW hS hn hA hF i j (k := k) (by omega)
    rw [rMov, Nat.succ_mul]
    by_cases hj : j < t.m.start.length
    · rw [range_getD _ _ hj]
      have := bq_add ((rMov t F i a k).getD j 0) (Go.Ear.rM t F i k j)
      have h3 : bq (Go.Ear.rM t F i k j) ≤ A + 2 * W + bB S W N + (1 + S * (A + W + 1)) := by
        unfold Go.Ear.rM; split
        · rw [bq_zero]; omega
        · exact h2
      omega
    · rw [List.getD_eq_getElem?_getD, List.getElem?_eq_none (by simp; omega)]
      have : bq (0 : Rat) = 1 := bq_zero
      show bq (0 : Rat) ≤ _; omega
theorem AdB.of {c : Go.Ear.Ct} {C : Nat} (cs : ∀ i, bq (c.start.getD i 0) ≤ C) (ce : ∀ i, bq (c.fin.getD i 0) ≤ C) (cm : ∀ i j, bq ((c.move.getD i []).getD j 0) ≤ C) (cy : ∀ i j, bq ((c.say.getD i []).getD j 0) ≤ C)
    (l : c.start.length = t.m.start.length ∧ c.fin.length = t.m.start.length ∧ c.move.length = t.m.start.length ∧ c.say.length = t.m.start.length) (r : ∀ i, i < t.m.start.length → (c.move.getD i []).length = t.m.start.length ∧ (c.say.getD i []).length = symb t.m)
    (b1 : A ≤ 300000) (b2 : bB S W N ≤ 300000) (b3 : C + (N + 1) * (A + 2 * W + bB S W N + (1 + S * (A + W + 1)) + 1) ≤ 60000000) : AdB t F c := by
  have hp : A + 2 * W + bB S W N + (1 + S * (A + W + 1)) + 1 ≤ (N + 1) * (A + 2 * W + bB S W N + (1 + S * (A + W + 1)) + 1) := Nat.le_mul_of_pos_left _ (Nat.succ_pos N)
  have hm : ∀ k, k ≤ t.o.length → k * (A + 2 * W + bB S W N + (1 + S * (A + W + 1)) + 1) ≤ (N + 1) * (A + 2 * W + bB S W N + (1 + S * (A + W + 1)) + 1) := fun k hk => Nat.mul_le_mul_right _ (by omega)
  refine ⟨fun k i hk => Nat.le_trans (hF k i hk) b1, fun k i hk => Nat.le_trans (rbw_bqN h hs hW hS hn hA hF hk i) b2, ?_, fun i k hk => ?_, fun i k j hk => ?_, fun i => ?_, fun i => ?_, fun i k x hk => ?_, fun i k j hk => ?_, l, r⟩
  · have := rTot_bq h hs hW hS hn hA hF; omega
  · have := rY_bq h hs hW hS hn hA hF i hk; omega
  · have := rWm_bq h hs hW hS hn hA hF i j hk; omega
  · have := cs i; omega
  · have := ce i; omega
  · have := rSay_bq h hs hW hS hn hA hF (cy i) i k x hk; have := hm k hk; omega
  · have := rMov_bq h hs hW hS hn hA hF (cm i) i k j hk; have := hm k (by omega); omega
end
theorem fT_bq {m : Md} {o : List Int} {S W N : Nat} (h : MdW W m) (hs : m.start.length ≤ S) (hW : 1 ≤ W) (hS : 1 ≤ S) (hn : o.length ≤ N + 1) (k i : Nat) (hk : k < o.length) : bq ((fT m o (m.start.length : Int) k).getD i 0) ≤ fB S W N := by
  rw [fT_fwd hk]; exact Nat.le_trans (fwd_bq (t := ⟨m, o⟩) h hs hW k i) (fB_mono hS (by omega))
theorem fB_pos (S W : Nat) (hW : 1 ≤ W) : ∀ k, 1 ≤ fB S W k
  | 0 => by unfold fB; omega
  | k + 1 => by unfold fB; omega
theorem RDk.of {m : Md} {data : List (List Int)} {S W N D : Nat} (h : MdW W m) (hs : m.start.length ≤ S) (hW : 1 ≤ W) (hS : 1 ≤ S) (hn : ∀ o ∈ data, o.length ≤ N + 1) (hc : checkE [m] data = 0) (mb : MdB 100000 m) (hw : W ≤ 5000) (hd : data.length ≤ D) (hD : D ≤ 1000) (nn : Nn m) (hy : symb m ≤ 1048576)
    (b1 : fB S W N ≤ 300000) (b2 : bB S W N ≤ 300000) (b3 : 1 + D * (qB S W N + 1) + (N + 1) * (fB S W N + 2 * W + bB S W N + (1 + S * (fB S W N + W + 1)) + 1) ≤ 60000000) : RDk m data := by
  have hv := (checkE_n hc).2
  have ht : ∀ k, k < data.length → checkE [m] [data.getD k []] = 0 := fun k hk => checkE_one hc (getD_mem' data [] hk)
  have hs40 : m.start.length ≤ 40 := by
    have := hv.2
    unfold longM at this
    simp only [Bool.or_eq_false_iff, decide_eq_false_iff_not] at this; omega
  refine ⟨by omega, hs40, hy, by have := valid_len hv.1; omega, mb, MdW.up h hw, nn, fun k hk => checkE_TOk (ht k hk), fun k hk => RfB.of (t := Go.Ear.trK m data k) h hs hW hS (hn _ (getD_mem' data [] hk)) b1, fun k hk => ?_⟩
  have ha := allT_bq h hs hW hS hn k (by omega)
  have hl := allT_len m data k
  have hq : 1 + k * (qB S W N + 1) ≤ 1 + D * (qB S W N + 1) := Nat.add_le_add_left (Nat.mul_le_mul_right _ (by omega)) 1
  exact AdB.of (t := Go.Ear.trK m data k) (A := fB S W N) (C := 1 + D * (qB S W N + 1)) h hs hW hS (hn _ (getD_mem' data [] hk)) (fB_pos S W hW N) (fun j i hj => fT_bq h hs hW hS (hn _ (getD_mem' data [] hk)) j i hj)
    (fun i => Nat.le_trans (ha i 0).1 hq) (fun i => Nat.le_trans (ha i 0).2.1 hq) (fun i j => Nat.le_trans (ha i j).2.2.1 hq) (fun i j => Nat.le_trans (ha i j).2.2.2 hq) ⟨hl.1, hl.2.1, hl.2.2.1, hl.2.2.2.1⟩ (fun i hi => allT_row' m data k i hi) b1 b2 b3
end Go.E3
