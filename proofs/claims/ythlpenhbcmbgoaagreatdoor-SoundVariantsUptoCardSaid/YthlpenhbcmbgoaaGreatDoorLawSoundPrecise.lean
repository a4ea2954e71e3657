/- LawSoundPrecise: a part of the proofs about what is clipped and stored: how the program's functions run, and what they compute, for every input. -/
import Derived.Test.YthlpenhbcmbgoaaGreatDoorA33
set_option linter.all false
set_option linter.unusedVariables false
set_option maxRecDepth 20000
set_option maxHeartbeats 4000000
set_option synthInstance.maxSize 1000
namespace Go.E3
open Go Go.Ear Go.Proofs
theorem prB_szE {l : List En} {r : List Rw} {n E : Nat} (hr : rulB r = true) (hs : ∀ x ∈ r, RwS x ∧ bf x.f ≤ 4) (hl : l.length ≤ 12) (hw : n ≤ 4) (he : ∀ e ∈ l, (Fit e.f.n ∧ Fit e.f.d) ∧ bf e.f ≤ 4) (h5 : sz E ≤ 2) : sz (rdn r ^ 25 * eD l ^ n * E) ≤ 6000 := by
  have h1 := sz_mul (rdn r ^ 25 * eD l ^ n) E
  have h2 := sz_mul (rdn r ^ 25) (eD l ^ n)
  have h3 := sz_pow (rdn r) 25
  have h4 := rdn_sz4 hr hs
  have h6 := sz_pow (eD l) n
  have h7 := eD_sz (r := l) (b := 4) he
  have h8 : l.length * 4 ≤ 12 * 4 := Nat.mul_le_mul_right _ hl
  have h9 : n * sz (eD l) ≤ 4 * 49 := Nat.mul_le_mul hw (by omega)
  omega
theorem prB_bq4 {l : List En} {r : List Rw} {ws : List ByteArray} (ok : PrOk r (chs (owns l ws)) (eD l ^ ws.length)) (hs : ∀ x ∈ r, RwS x ∧ bf x.f ≤ 4) (hl : l.length ≤ 12) (hw : ws.length ≤ 4) (he : ∀ e ∈ l, (Fit e.f.n ∧ Fit e.f.d) ∧ bf e.f ≤ 4) (p : List Int) : bq (tot (prB r (chs (owns l ws))) p) ≤ 6000 := by
  have h0 := (prB_wb ok (chs (owns l ws)).length).bq (prD_pos ok) (by decide) p
  rw [List.take_length] at h0
  exact Nat.le_trans h0 (prB_szE ok.hr hs hl hw he (sz_small (by decide)))
theorem pr_facts {l : List En} {r : List Rw} {ws : List ByteArray} (s : PnS l r ws) (h : prE l r ws = 0) : ∃ (hv : valB l = true) (hr : rulB r = true) (hw : ws.length ≤ 40) (hc : choE l ws = 0) (he : hasE (owns l ws) = false), PrOk r (chs (owns l ws)) (eD l ^ ws.length) ∧ okP r (chs (owns l ws)) = true ∧ prL l r ws = srtF (prB r (chs (owns l ws))) := by
  unfold prE at h
  split at h
  · rename_i c
    split at h
    · rename_i c4
      split at h
      · rename_i c5
        obtain ⟨d1, d2, d3⟩ := choE_ok c4
        exact ⟨c.1, c.2.1, c.2.2, c4, d1, pn_ok s c.1 c.2.1 c.2.2 d1 d2, c5, if_pos ⟨c.1, c.2.1, c.2.2, c4, c5⟩⟩
      · exact absurd h (by decide)
    · rename_i c4
      exact absurd h c4
  · exact absurd h (by decide)
theorem prE_ne {l : List En} {r : List Rw} {ws : List ByteArray} (h : prE l r ws ≠ 0) : prL l r ws = [] := by
  refine if_neg fun ⟨a, b, c, d, e⟩ => h ?_
  unfold prE
  rw [if_pos ⟨a, b, c⟩, if_pos d, if_pos e]
theorem okP_bnd {r : List Rw} {C : List (List En)} (h : okP r C = true) (hC : 1 ≤ C.length) : bndB (prB r C) = true := by
  have := (okP_iff.1 h (C.length - 1) (by omega)).2
  rwa [Nat.sub_add_cancel hC, List.take_length] at this
theorem gd_phB {p : List Int} (h : GdP 104 p) : phB p 400 = true := by
  unfold phB
  rw [Bool.and_eq_true, decide_eq_true_iff, Bool.not_eq_true', List.any_eq_false]
  refine ⟨by have := h.1; omega, fun y hy => ?_⟩
  have := h.2 y hy
  unfold badP
  simp; omega
theorem wg_ok {l : List En} {r : List Rw} {ws : List ByteArray} {q : List Int} (hv : valB l = true) (hr : rulB r = true) (hw : ws.length ≤ 40) (hc : choE l ws = 0) (hq : phB q 400 = true) : wgE l r ws q = 0 ∧ wgT l r ws q = tot (prB r (chs (owns l ws))) q := by
  constructor
  · exact (if_pos ⟨hv, hr, hw, hq⟩).trans hc
  · exact (if_pos ⟨hv, hr, hw, hq, hc⟩).trans (wgS_tot r q _)
end Go.E3
