/- A30: a part of the proofs about what is clipped and stored: how the program's functions run, and what they compute, for every input. -/
import Derived.Test.YthlpenhbcmbgoaaGreatDoorK12
set_option linter.all false
set_option linter.unusedVariables false
set_option maxRecDepth 20000
set_option maxHeartbeats 4000000
set_option synthInstance.maxSize 1000
namespace Go.E3
open Go Go.Ear Go.Proofs
def smB (f : Fr) : Bool := decide (f.n.length ≤ 4) && decide (f.d.length ≤ 4)
instance smallW_c {f : Fr} {S : SV} [i : Vw fv S f] : Ct Tryz.prog 51 [S] True (bv (smB f)) := by
  refine ct1 i (ctI Tryz.call51 Tryz.func51 Tryz.ntmps51 rfl Tryz.results51 rfl [] fun h0 w0 _ => ?_)
  repeat first | refine nx ?_ | intro _
  rfl
def fitE (e : En) : Bool := decide (e.w.size ≤ 60) && (decide (e.ph.length ≤ 60) && smB e.f)
def fitB (l : List En) (most : Int) : Bool := !(decide (most < l.length) && decide (l.length ≤ 1000)) && (decide (l.length ≤ 1100) && l.all fitE)
instance fit_c {l : List En} {most : Int} {S : SV} [i : Vw lxv S l] : Ct Tryz.prog 14 [S, iv most] (l.length ≤ 1099511627776) (bv (fitB l most)) := by
  refine ct1 i (ctI Tryz.call14 Tryz.func14 Tryz.ntmps14 rfl Tryz.results14 rfl [] fun h0 w0 hl => ?_)
  repeat first | refine nx ?_ | intro _
  refine gIf (fun c => ?_) fun c => ?_
  · repeat first | refine nx ?_ | intro _
    unfold fitB
    rcases c with ⟨a, b⟩ | c
    · rw [decide_eq_true a, decide_eq_true b]; rfl
    · rw [decide_eq_false (show ¬ l.length ≤ 1100 by omega), Bool.false_and, Bool.and_false]
  · repeat first | refine nx ?_ | intro _
    have c1 : (!(decide (most < l.length) && decide (l.length ≤ 1000))) = true := by
      rw [Bool.not_eq_true', ← Bool.not_eq_true, Bool.and_eq_true, decide_eq_true_iff, decide_eq_true_iff]
      exact fun h => c (.inl h)
    have c2 : l.length ≤ 1100 := by omega
    refine gLp (fun k : Nat => [(5, iv k)]) (fun _ => []) (fun k => k ≤ l.length ∧ ∀ j, j < k → fitE (l.getD j en0) = true) (fun k => l.length - k) 0 ⟨Nat.zero_le _, fun j h => absurd h (Nat.not_lt_zero _)⟩ (fun k ⟨hk, hn⟩ => ?_)
    repeat first | refine nx ?_ | intro _
    refine gIf (fun c3 => ?_) fun c3 => ?_
    · repeat first | refine nx ?_ | intro _
      refine gIf (fun c4 => ?_) fun c4 => ?_ <;> repeat first | refine nx ?_ | intro _
      · have : fitE (l.getD k en0) = false := by
          unfold fitE
          rw [Bool.and_eq_false_iff, Bool.and_eq_false_iff]
          rcases c4 with (c4 | c4) | c4
          · exact .inl (decide_eq_false (by omega))
          · exact .inr (.inl (decide_eq_false (by omega)))
          · exact .inr (.inr (by simpa using c4))
        unfold fitB
        rw [List.all_eq_false.2 ⟨_, getD_in en0 c3, by rw [this]; decide⟩, Bool.and_false, Bool.and_false]
      · refine gBk (k + 1) ⟨by omega, fun j hj => ?_⟩ (by omega)
        by_cases e : j = k
        · subst e
          unfold fitE
          rw [Bool.and_eq_true, Bool.and_eq_true, decide_eq_true_iff, decide_eq_true_iff]
          exact ⟨by omega, by omega, Classical.byContradiction fun h => c4 (.inr h)⟩
        · exact hn j (by omega)
    · repeat first | refine nx ?_ | intro _
      unfold fitB
      rw [c1, decide_eq_true c2, Bool.true_and, Bool.true_and, List.all_eq_true.2]
      intro e he
      obtain ⟨k, hk, rfl⟩ := getD_mem (d := en0) he
      exact hn k (by omega)
def UpE (l : List En) : Prop := l.length ≤ 2000000 ∧ ∀ e ∈ l, Fit e.f.n ∧ Fit e.f.d
theorem fit_lx {l : List En} {most : Int} (h : fitB l most = true) (u : UpE l) : LxS l ∧ ∀ e ∈ l, (e.w.size ≤ 60 ∧ e.ph.length ≤ 60) ∧ e.f.n.length ≤ 4 ∧ e.f.d.length ≤ 4 := by
  unfold fitB at h
  rw [Bool.and_eq_true, Bool.and_eq_true, decide_eq_true_iff, List.all_eq_true] at h
  have h2 : ∀ e ∈ l, (e.w.size ≤ 60 ∧ e.ph.length ≤ 60) ∧ e.f.n.length ≤ 4 ∧ e.f.d.length ≤ 4 := fun e he => by
    have := h.2.2 e he
    unfold fitE smB at this
    simp only [Bool.and_eq_true, decide_eq_true_iff] at this
    exact ⟨⟨this.1, this.2.1⟩, this.2.2⟩
  refine ⟨⟨by omega, fun e he => ?_⟩, h2⟩
  obtain ⟨⟨a, b⟩, c, d⟩ := h2 e he
  refine ⟨⟨by omega, by omega⟩, ?_, u.2 e he⟩
  show max (max e.f.n.length e.f.d.length) 1 ≤ 1000
  omega
theorem fit_len {l : List En} {most : Int} (h : fitB l most = true) : (l.length : Int) ≤ most ∨ 1000 < l.length := by
  unfold fitB at h
  rw [Bool.and_eq_true, Bool.not_eq_true', Bool.and_eq_false_iff, decide_eq_false_iff_not, decide_eq_false_iff_not] at h
  omega
end Go.E3
