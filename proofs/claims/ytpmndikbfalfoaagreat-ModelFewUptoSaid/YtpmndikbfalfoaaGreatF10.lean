/- F10: a part of the proofs about package model: how the program's functions run, and what they compute, for every input. -/
import Derived.Test.YtpmndikbfalfoaaGreatF9
set_option linter.all false
set_option linter.unusedVariables false
set_option maxRecDepth 20000
namespace Go.E3
open Go Go.Ear Go.Proofs
theorem fT_rfw {m : Md} {o : List Int} {keep : Int} {k : Nat} (h : k < o.length) : fT m o keep k = rfw ⟨m, o⟩ keep k := rfwN_at h
theorem rfT_kT (m : Md) (o : List Int) (keep : Int) : rfT m o keep = kT ⟨m, o⟩ keep := rTot_congr (t := ⟨m, o⟩) fun k hk => fT_rfw hk
section
variable {t : Tr} {keep : Int} (nn : Nn t.m)
include nn
theorem rfw_nn : ∀ k i, 0 ≤ (rfw t keep k).getD i 0
  | k, i => by
    by_cases hi : i < t.m.start.length
    · rw [rfw_at hi]
      split
      · unfold rawI
        refine Rat.mul_nonneg ?_ (nn.sy i _)
        match k with
        | 0 => rw [if_pos rfl]; exact nn.st i
        | k + 1 =>
          rw [if_neg (by omega)]
          exact sumTo_nonneg _ fun j _ => Rat.mul_nonneg (rfw_nn k j) (nn.mv j i)
      · exact Rat.le_refl
    · rw [List.getD_eq_getElem?_getD, List.getElem?_eq_none (by rw [rfw_len]; omega)]; exact Rat.le_refl
theorem rfw_le : ∀ k i, (rfw t keep k).getD i 0 ≤ (fwd t k).getD i 0
  | k, i => by
    by_cases hi : i < t.m.start.length
    · rw [rfw_at hi]
      split
      · unfold rawI
        match k with
        | 0 => rw [if_pos rfl, ← fwd_zero hi]; exact Rat.le_refl
        | k + 1 =>
          rw [if_neg (by omega), ← fwd_succ hi, Rat.mul_comm]
          refine Rat.mul_le_mul_of_nonneg_left (sumTo_le _ fun j _ => ?_) (nn.sy i _)
          exact Rat.mul_le_mul_of_nonneg_right (rfw_le k j) (nn.mv j i)
      · exact fwd_nn nn k i
    · rw [List.getD_eq_getElem?_getD, List.getElem?_eq_none (by rw [rfw_len]; omega), List.getD_eq_getElem?_getD, List.getElem?_eq_none (by rw [fwd_len]; omega)]; exact Rat.le_refl
theorem kT_nn : 0 ≤ kT t keep := by
  unfold kT rTot
  split
  · exact Rat.le_refl
  · exact sumTo_nonneg _ fun i _ => Rat.mul_nonneg (rfw_nn nn _ i) (nn.fi i)
theorem kT_le : kT t keep ≤ lk t := by
  unfold kT rTot
  split
  · exact lk_nn nn
  · rw [lk_fwd (by omega)]
    exact sumTo_le _ fun i _ => Rat.mul_le_mul_of_nonneg_right (rfw_le nn _ i) (nn.fi i)
theorem rfw_gap {k i j : Nat} (hi : i < t.m.start.length) (hj : j < t.m.start.length) (h0 : (rfw t keep k).getD i 0 ≠ 0) (hk : kpB t keep (k + 1) j = true) (h1 : (rfw t keep (k + 1)).getD j 0 = 0) : moveT t i j * sayT t j (k + 1) = 0 := by
  rw [rfw_at hj, if_pos hk] at h1
  unfold rawI at h1
  rw [if_neg (by omega), Nat.add_sub_cancel] at h1
  rcases Rat.mul_eq_zero.1 h1 with h | h
  · have := sumTo_zero_all (fun a _ => Rat.mul_nonneg (rfw_nn nn k a) (nn.mv a j)) h i hi
    rcases Rat.mul_eq_zero.1 this with h | h
    · exact absurd h h0
    · rw [show moveT t i j = 0 from h, Rat.zero_mul]
  · rw [h, Rat.mul_zero]
theorem bwP_rbw : ∀ d i, d < t.o.length → i < t.m.start.length → (rfw t keep (t.o.length - 1 - d)).getD i 0 ≠ 0 → (bwP t keep d).getD i 0 = (rbw t (rfw t keep) d).getD i 0
  | d, i, hd, hi, h0 => by
    have hk : kpB t keep (t.o.length - 1 - d) i = true := by
      rw [rfw_at hi] at h0
      by_cases h : kpB t keep (t.o.length - 1 - d) i = true
      · exact h
      · rw [if_neg h] at h0; exact absurd rfl h0
    match d, hd, h0, hk with
    | 0, hd, h0, hk => rw [← bwP_z rfl hi hk, ← rbw_z rfl hi]
    | d + 1, hd, h0, hk =>
      rw [← bwP_s (by omega) hd hi hk, rbw, range_getD _ _ hi]
      have e : t.o.length - 1 - (d + 1) + 1 = t.o.length - 1 - d := by omega
      rw [e, Nat.add_sub_cancel]
      refine sumTo_congr _ fun j hj => ?_
      by_cases hz : (rfw t keep (t.o.length - 1 - d)).getD j 0 = 0
      · rw [if_pos hz]
        by_cases hkj : kpB t keep (t.o.length - 1 - d) j = true
        · have := rfw_gap nn hi hj h0 (by rw [e]; exact hkj) (by rw [e]; exact hz)
          rw [e] at this
          rw [this, Rat.zero_mul]
        · rw [bwP_n hj hkj, Rat.mul_zero]
      · rw [if_neg hz, bwP_rbw d j (by omega) hj hz]
theorem kY_rY {i k : Nat} (hk : k < t.o.length) (hi : i < t.m.start.length) : kY t keep i k = rY t (rfw t keep) i k := by
  unfold kY rY
  by_cases h : (rfw t keep k).getD i 0 = 0
  · rw [h, Rat.zero_mul, Rat.zero_mul]; rfl
  · rw [bwP_rbw nn _ i (by omega) hi (by rw [show t.o.length - 1 - (t.o.length - 1 - k) = k by omega]; exact h)]; rfl
theorem kM_rM {i k j : Nat} (hk : k + 1 < t.o.length) (hi : i < t.m.start.length) (hj : j < t.m.start.length) : kM t keep i k j = Go.Ear.rM t (rfw t keep) i k j := by
  unfold kM Go.Ear.rM kW rWm
  have e : t.o.length - 1 - (t.o.length - 1 - (k + 1)) = k + 1 := by omega
  by_cases hz : (rfw t keep (k + 1)).getD j 0 = 0
  · rw [if_pos hz]
    have key : (rfw t keep k).getD i 0 * moveT t i j * sayT t j (k + 1) * (bwP t keep (t.o.length - 1 - (k + 1))).getD j 0 = 0 := by
      by_cases h0 : (rfw t keep k).getD i 0 = 0
      · rw [h0, Rat.zero_mul, Rat.zero_mul, Rat.zero_mul]
      · by_cases hkj : kpB t keep (k + 1) j = true
        · rw [show (rfw t keep k).getD i 0 * moveT t i j * sayT t j (k + 1) = (rfw t keep k).getD i 0 * (moveT t i j * sayT t j (k + 1)) from Rat.mul_assoc .., rfw_gap nn hi hj h0 hkj hz, Rat.mul_zero, Rat.zero_mul]
        · rw [bwP_n hj (by rw [e]; exact hkj), Rat.mul_zero]
    rw [key, zero_div_rat]
  · rw [if_neg hz, bwP_rbw nn _ j (by omega) hj (by rw [e]; exact hz)]; rfl
theorem kSay_rSay {i : Nat} (hi : i < t.m.start.length) : ∀ k, k ≤ t.o.length → kSay t keep i k = rSay t (rfw t keep) i (List.replicate (symb t.m) 0) k
  | 0, _ => rfl
  | k + 1, hk => by rw [kSay, rSay, kSay_rSay hi k (by omega), kY_rY nn (by omega) hi]
theorem kMv_rMov {i : Nat} (hi : i < t.m.start.length) : ∀ k, k < t.o.length → kMv t keep i k = rMov t (rfw t keep) i (List.replicate t.m.start.length 0) k
  | 0, _ => rfl
  | k + 1, hk => by
    rw [kMv, rMov, kMv_rMov hi k (by omega)]
    exact List.map_congr_left fun j hj => by rw [kM_rM nn hk hi (List.mem_range.1 hj)]
end
theorem rep_row {α : Type} (n i : Nat) (x d : α) (h : i < n) : (List.replicate n x).getD i d = x := by
  rw [List.getD_eq_getElem?_getD, List.getElem?_replicate, if_pos h]; rfl
theorem ktT_add {m : Md} {o : List Int} {keep : Int} (nn : Nn m) (h0 : 0 < o.length) : ktS ⟨m, o⟩ keep = (addCt ⟨m, o⟩ (fT m o keep) (zeC m)).start ∧ ktM ⟨m, o⟩ keep = (addCt ⟨m, o⟩ (fT m o keep) (zeC m)).move ∧ ktE ⟨m, o⟩ keep = (addCt ⟨m, o⟩ (fT m o keep) (zeC m)).fin ∧ ktY ⟨m, o⟩ keep = (addCt ⟨m, o⟩ (fT m o keep) (zeC m)).say := by
  rw [addCt_congr (t := ⟨m, o⟩) (G := rfw ⟨m, o⟩ keep) (fun k hk => fT_rfw hk) h0]
  unfold addCt
  refine ⟨List.map_congr_left fun i hi => ?_, List.map_congr_left fun i hi => ?_, List.map_congr_left fun i hi => ?_, List.map_congr_left fun i hi => ?_⟩
  · have hi := List.mem_range.1 hi
    rw [← kY_rY (t := ⟨m, o⟩) nn h0 hi]
    show _ = (List.replicate m.start.length 0).getD i 0 + _
    rw [rep_row _ _ _ _ hi, Rat.zero_add]; rfl
  · have hi := List.mem_range.1 hi
    rw [kMv_rMov (t := ⟨m, o⟩) nn hi _ (by show o.length - 1 < o.length; omega)]
    show _ = rMov _ _ i ((List.replicate m.start.length (List.replicate m.start.length 0)).getD i []) _
    rw [rep_row _ _ _ _ hi]
  · have hi := List.mem_range.1 hi
    rw [← kY_rY (t := ⟨m, o⟩) nn (show o.length - 1 < o.length by omega) hi]
    show _ = (List.replicate m.start.length 0).getD i 0 + _
    rw [rep_row _ _ _ _ hi, Rat.zero_add]
    show kE ⟨m, o⟩ keep i = kY ⟨m, o⟩ keep i (o.length - 1)
    unfold kE kY
    by_cases h : (rfw ⟨m, o⟩ keep (o.length - 1)).getD i 0 = 0
    · rw [show (Tr.mk m o).o.length - 1 = o.length - 1 from rfl, h, Rat.zero_mul, Rat.zero_mul]
    · have e : (Tr.mk m o).o.length - 1 - (o.length - 1) = 0 := Nat.sub_self _
      have hk : kpB ⟨m, o⟩ keep (o.length - 1) i = true := by
        by_cases hk : kpB ⟨m, o⟩ keep (o.length - 1) i = true
        · exact hk
        · rw [rfw_at (t := ⟨m, o⟩) hi, if_neg hk] at h; exact absurd rfl h
      rw [e, ← bwP_z (t := ⟨m, o⟩) (k := 0) rfl hi hk]
  · have hi := List.mem_range.1 hi
    rw [kSay_rSay (t := ⟨m, o⟩) nn hi _ (Nat.le_refl _)]
    show _ = rSay _ _ i ((List.replicate m.start.length (List.replicate (symb m) 0)).getD i []) _
    rw [rep_row _ _ _ _ hi]
theorem ktT_all {m : Md} {o : List Int} {keep : Int} (nn : Nn m) (tk : TOk ⟨m, o⟩) (hl : lk ⟨m, o⟩ ≠ 0) (hk : (m.start.length : Int) ≤ keep) : kT ⟨m, o⟩ keep = lk ⟨m, o⟩ ∧ ktS ⟨m, o⟩ keep = (cntD m [o]).start ∧ ktM ⟨m, o⟩ keep = (cntD m [o]).move ∧ ktE ⟨m, o⟩ keep = (cntD m [o]).fin ∧ ktY ⟨m, o⟩ keep = (cntD m [o]).say := by
  have h0 : 0 < o.length := lk_pos hl
  have hf : ∀ k, rfw ⟨m, o⟩ keep k = fwd ⟨m, o⟩ k := fun k => rfw_fwd (t := ⟨m, o⟩) hk k
  have e1 : kT ⟨m, o⟩ keep = lk ⟨m, o⟩ := (rTot_congr (t := ⟨m, o⟩) fun k _ => hf k).trans (rTot_fwd _)
  obtain ⟨a, b, c, d⟩ := ktT_add (keep := keep) nn h0
  have hF : addCt ⟨m, o⟩ (fT m o keep) (zeC m) = addCt ⟨m, o⟩ (fwd ⟨m, o⟩) (zeC m) := addCt_congr (t := ⟨m, o⟩) (fun k hk => (fT_rfw hk).trans (hf k)) h0 _
  have hA := addCt_all (m := m) (data := [o]) (k := 0) nn tk hl
  have hz : addCt (Go.Ear.trK m [o] 0) (fwd (Go.Ear.trK m [o] 0)) (allT m [o] 0) = addCt ⟨m, o⟩ (fwd ⟨m, o⟩) (zeC m) := rfl
  rw [hz] at hA
  rw [hF] at a b c d
  exact ⟨e1, a.trans hA.1, b.trans hA.2.1, c.trans hA.2.2.1, d.trans hA.2.2.2⟩
theorem KnB.of {t : Tr} {keep : Int} {E W F : Nat} (hf : ∀ k i, k < t.o.length → bq ((rfw t keep k).getD i 0) ≤ E) (hb : ∀ k i, k < t.o.length → bq ((bwP t keep k).getD i 0) ≤ E) (hl : bq (kT t keep) ≤ E) (hw : MdW W t.m) (hF : t.o.length ≤ F) (hE : 1 ≤ E) (h6 : 1 + (F + 1) * (3 * E + 2 * W + 1) ≤ 60000000) : KnB t keep ∧ ∀ i j, bq ((ktS t keep).getD i 0) ≤ 1 + (F + 1) * (3 * E + 2 * W + 1) ∧ bq ((ktE t keep).getD i 0) ≤ 1 + (F + 1) * (3 * E + 2 * W + 1) ∧ bq (((ktM t keep).getD i []).getD j 0) ≤ 1 + (F + 1) * (3 * E + 2 * W + 1) ∧ bq (((ktY t keep).getD i []).getD j 0) ≤ 1 + (F + 1) * (3 * E + 2 * W + 1) := by
  have h0 : bq (0 : Rat) = 1 := bq_zero
  have hQ : 3 * E + 2 * W + 1 ≤ (F + 1) * (3 * E + 2 * W + 1) := Nat.le_mul_of_pos_left _ (by omega)
  have hY : ∀ i k, k < t.o.length → bq (kY t keep i k) ≤ 3 * E := fun i k hk => by
    have h1 := bq_div ((rfw t keep k).getD i 0 * (bwP t keep (t.o.length - 1 - k)).getD i 0) (kT t keep)
    have h2 := bq_mul ((rfw t keep k).getD i 0) ((bwP t keep (t.o.length - 1 - k)).getD i 0)
    have h3 := hf k i hk
    have h4 := hb (t.o.length - 1 - k) i (by omega)
    unfold kY; omega
  have hM : ∀ i k j, k < t.o.length → bq (kM t keep i k j) ≤ 3 * E + 2 * W := fun i k j hk => by
    have h1 := bq_div (kW t keep i k j) (kT t keep)
    have h2 := bq_mul ((rfw t keep k).getD i 0) (moveT t i j)
    have h3 := bq_mul ((rfw t keep k).getD i 0 * moveT t i j) (sayT t j (k + 1))
    have h4 := bq_mul ((rfw t keep k).getD i 0 * moveT t i j * sayT t j (k + 1)) ((bwP t keep (t.o.length - 1 - (k + 1))).getD j 0)
    have h5 := hf k i hk
    have h6 := hb (t.o.length - 1 - (k + 1)) j (by omega)
    have h7 : bq (moveT t i j) ≤ W := hw.mv i j
    have h8 : bq (sayT t j (k + 1)) ≤ W := hw.sy j _
    unfold kM
    have : bq (kW t keep i k j) ≤ E + W + W + E := by unfold kW; omega
    omega
  have hm : ∀ k, k ≤ t.o.length → k * (3 * E + 2 * W + 1) ≤ (F + 1) * (3 * E + 2 * W + 1) := fun k hk => Nat.mul_le_mul_right _ (by omega)
  have hS : ∀ i k x, k ≤ t.o.length → bq ((kSay t keep i k).getD x 0) ≤ 1 + k * (3 * E + 2 * W + 1) := fun i k => by
    induction k with
    | zero =>
      intro x _
      rw [kSay, List.getD_eq_getElem?_getD, List.getElem?_replicate]
      split <;> (simp only [Option.getD]; omega)
    | succ k ih =>
      intro x hk
      have h1 := ih (t.o.getD k 0).toNat (by omega)
      have h2 := ih x (by omega)
      rw [kSay, Nat.succ_mul]
      by_cases e : (t.o.getD k 0).toNat = x
      · subst e
        by_cases hx : (t.o.getD k 0).toNat < (kSay t keep i k).length
        · rw [getD_set_is hx]
          have h3 := bq_add ((kSay t keep i k).getD (t.o.getD k 0).toNat 0) (kY t keep i k)
          have h4 := hY i k (by omega)
          omega
        · rw [out_bq (by rw [List.length_set]; omega)]; omega
      · rw [getD_set_ne' e]; omega
  have hR : ∀ i k x, k ≤ t.o.length → bq ((kMv t keep i k).getD x 0) ≤ 1 + k * (3 * E + 2 * W + 1) := fun i k => by
    induction k with
    | zero =>
      intro x _
      rw [kMv, List.getD_eq_getElem?_getD, List.getElem?_replicate]
      split <;> (simp only [Option.getD]; omega)
    | succ k ih =>
      intro x hk
      have h2 := ih x (by omega)
      rw [Nat.succ_mul]
      by_cases hx : x < t.m.start.length
      · rw [← kMv_at hx]
        have h3 := bq_add ((kMv t keep i k).getD x 0) (kM t keep i k x)
        have h4 := hM i k x (by omega)
        omega
      · rw [out_bq (by rw [kMv_len]; omega)]; omega
  have hkb : KnB t keep := ⟨by omega, fun i k x hk => by have := hS i k x hk; have := hm k hk; omega, fun i k x hk => by have := hR i k x hk; have := hm k hk; omega, fun i k hk => by have := hY i k hk; omega, fun i k j hk => by have := hM i k j hk; omega⟩
  refine ⟨hkb, fun i j => ?_⟩
  by_cases hp : 0 < t.o.length
  · by_cases hi : i < t.m.start.length
    · refine ⟨?_, ?_, ?_, ?_⟩
      · rw [ktS, range_getD _ _ hi]; have : bq (kS t keep i) ≤ 3 * E := hY i 0 hp; omega
      · rw [ktE, range_getD _ _ hi]
        have h1 := bq_div ((rfw t keep (t.o.length - 1)).getD i 0 * (t.m.fin.getD i fr0).rat) (kT t keep)
        have h2 := bq_mul ((rfw t keep (t.o.length - 1)).getD i 0) (t.m.fin.getD i fr0).rat
        have h3 := hf (t.o.length - 1) i (by omega)
        have h4 := hw.fi i
        unfold kE; omega
      · rw [ktM, range_getD _ _ hi]; have := hR i (t.o.length - 1) j (by omega); have := hm (t.o.length - 1) (by omega); omega
      · rw [ktY, range_getD _ _ hi]; have := hS i t.o.length j (Nat.le_refl _); have := hm t.o.length (Nat.le_refl _); omega
    · refine ⟨?_, ?_, ?_, ?_⟩
      · rw [out_bq (by rw [ktS_len]; omega)]; omega
      · rw [out_bq (by rw [ktE_len]; omega)]; omega
      · rw [List.getD_eq_getElem?_getD (l := ktM t keep), List.getElem?_eq_none (by rw [ktM_len]; omega)]; show bq (0 : Rat) ≤ _; omega
      · rw [List.getD_eq_getElem?_getD (l := ktY t keep), List.getElem?_eq_none (by rw [ktY_len]; omega)]; show bq (0 : Rat) ≤ _; omega
  · have e : t.o.length = 0 := by omega
    by_cases hi : i < t.m.start.length
    · have hk0 : kT t keep = 0 := by unfold kT rTot; rw [if_pos e]
      refine ⟨?_, ?_, ?_, ?_⟩
      · rw [ktS, range_getD _ _ hi, kS, hk0, Rat.div_def, Rat.inv_zero, Rat.mul_zero]; omega
      · rw [ktE, range_getD _ _ hi, kE, hk0, Rat.div_def, Rat.inv_zero, Rat.mul_zero]; omega
      · rw [ktM, range_getD _ _ hi]; have := hR i (t.o.length - 1) j (by omega); have := hm (t.o.length - 1) (by omega); omega
      · rw [ktY, range_getD _ _ hi]; have := hS i t.o.length j (Nat.le_refl _); have := hm t.o.length (Nat.le_refl _); omega
    · refine ⟨?_, ?_, ?_, ?_⟩
      · rw [out_bq (by rw [ktS_len]; omega)]; omega
      · rw [out_bq (by rw [ktE_len]; omega)]; omega
      · rw [List.getD_eq_getElem?_getD (l := ktM t keep), List.getElem?_eq_none (by rw [ktM_len]; omega)]; show bq (0 : Rat) ≤ _; omega
      · rw [List.getD_eq_getElem?_getD (l := ktY t keep), List.getElem?_eq_none (by rw [ktY_len]; omega)]; show bq (0 : Rat) ≤ _; omega
theorem rfw_fB {t : Tr} {keep : Int} {S W N : Nat} (h : MdW W t.m) (hs : t.m.start.length ≤ S) (hW : 1 ≤ W) (hS : 1 ≤ S) (hn : t.o.length ≤ N + 1) (k i : Nat) (hk : k < t.o.length) : bq ((rfw t keep k).getD i 0) ≤ fB S W N := by
  have key : ∀ k i, bq ((rawF t keep k).getD i 0) ≤ fB S W k := by
    intro k
    induction k with
    | zero =>
      intro i
      by_cases hi : i < t.m.start.length
      · rw [rawF, range_getD _ _ hi, rawI, if_pos rfl]
        have := bq_mul (t.m.start.getD i fr0).rat (sayT t i 0); have := h.st i; have h2 : bq (sayT t i 0) ≤ W := h.sy i (t.o.getD 0 0).toNat
        show _ ≤ 2 * W; omega
      · rw [out_bq (by rw [rawF_len]; omega)]; show 1 ≤ 2 * W; omega
    | succ k ih =>
      intro i
      by_cases hi : i < t.m.start.length
      · rw [rawF, range_getD _ _ hi, rawI, if_neg (by omega)]
        have h1 := bq_mul (sumTo (fun j => (rfw t keep (k + 1 - 1)).getD j 0 * moveT t j i) t.m.start.length) (sayT t i (k + 1))
        have h2 : bq (sayT t i (k + 1)) ≤ W := h.sy i (t.o.getD (k + 1) 0).toNat
        have hB : 1 ≤ fB S W k := by cases k <;> (unfold fB; omega)
        have h3 := bq_sumTo (q := fun j => (rfw t keep (k + 1 - 1)).getD j 0 * moveT t j i) (B := fB S W k + W) t.m.start.length fun j _ => by
          have h5 : bq ((rfw t keep k).getD j 0) ≤ fB S W k := by rw [rfw_raw]; exact keptR_bq hB ih j
          have h6 : bq (moveT t j i) ≤ W := h.mv j i
          exact Nat.le_trans (bq_mul _ _) (Nat.add_le_add h5 h6)
        have h4 := Nat.mul_le_mul_right (fB S W k + W + 1) hs
        show _ ≤ W + (1 + S * (fB S W k + W + 1))
        omega
      · rw [out_bq (by rw [rawF_len]; omega)]; show 1 ≤ W + _; omega
  rw [rfw_raw]
  exact keptR_bq (fB_pos S W hW N) (fun i => Nat.le_trans (key k i) (fB_mono hS (by omega))) i
end Go.E3
