/- A56: a part of the proofs about what is clipped and stored: how the program's functions run, and what they compute, for every input. -/
import Derived.Test.YthlpenhbcmbgoaaGreatDoorA55
set_option linter.all false
set_option linter.unusedVariables false
set_option maxRecDepth 20000
set_option maxHeartbeats 8000000
set_option synthInstance.maxSize 1000
namespace Go.E3
open Go Go.Ear Go.Proofs
def slAt (a b : List En) (i : Nat) : Bool := decide ((a.getD i en0).w = (b.getD i en0).w) && (decide (ordI (a.getD i en0).ph (b.getD i en0).ph = 0) && sameF (a.getD i en0).f (b.getD i en0).f)
def slB (a b : List En) : Bool := decide (a.length = b.length) && (List.range a.length).all (slAt a b)
theorem slB_self (a : List En) : slB a a = true := by
  unfold slB
  rw [decide_eq_true rfl, Bool.true_and, List.all_eq_true]
  intro i _
  unfold slAt
  rw [ordI_to.self, decide_eq_true rfl, decide_eq_true rfl, Bool.true_and, Bool.true_and]
  exact Go.Ear.sameF_iff.2 rfl
instance sameLex_c {a b : List En} {S T : SV} [i : Vw lxv S a] [j : Vw lxv T b] : Ct Tryz.prog 50 [S, T] (LxS a ∧ LxS b) (bv (slB a b)) := by
  refine ct2 i j (ctI Tryz.call50 Tryz.func50 Tryz.ntmps50 rfl Tryz.results50 rfl [] fun h0 w0 ⟨ha, hb⟩ => ?_)
  haveI := ha.ft
  haveI := hb.ft
  have hal := ha.1
  have hbl := hb.1
  repeat first | refine nx ?_ | intro _
  refine gIf (fun c => ?_) fun c => ?_ <;> repeat first | refine nx ?_ | intro _
  · unfold slB
    rw [decide_eq_false c]; rfl
  · have c := Classical.not_not.1 c
    refine gLp (fun k : Nat => [(5, iv k)]) (fun _ => []) (fun k => k ≤ a.length ∧ ∀ j, j < k → slAt a b j = true) (fun k => a.length - k) 0 ⟨Nat.zero_le _, fun j hj => absurd hj (Nat.not_lt_zero _)⟩ (fun k ⟨hk, hn⟩ => ?_)
    repeat first | refine nx ?_ | intro _
    refine gIf (fun c2 => ?_) fun c2 => ?_
    · obtain ⟨⟨x0, x1⟩, x2, x3⟩ := ha.2 _ (getD_in en0 c2)
      have hkb : k < b.length := by omega
      obtain ⟨⟨y0, y1⟩, y2, y3⟩ := hb.2 _ (getD_in en0 hkb)
      repeat first | refine gDs 14 13 (by rfl) (by kernel_rfl) ?_ | refine nx ?_ | intro _
      refine gIf (fun c3 => ?_) fun c3 => ?_ <;> repeat first | refine nx ?_ | intro _
      · have h1 : ¬ slAt a b k = true := fun h => by
          unfold slAt at h
          rw [Bool.and_eq_true, Bool.and_eq_true, decide_eq_true_iff, decide_eq_true_iff] at h
          rcases c3 with (c3 | c3) | c3
          · exact c3 h.1
          · exact c3 h.2.1
          · exact c3 h.2.2
        have h2 : (List.range a.length).all (slAt a b) = false := List.all_eq_false.2 ⟨k, List.mem_range.2 c2, h1⟩
        unfold slB
        rw [h2, Bool.and_false]
      · refine gBk (k + 1) ⟨by omega, fun j hj => ?_⟩ (by omega)
        by_cases e : j = k
        · subst e
          unfold slAt
          rw [Bool.and_eq_true, Bool.and_eq_true, decide_eq_true_iff, decide_eq_true_iff]
          exact ⟨Classical.byContradiction fun h => c3 (.inl (.inl h)), Classical.byContradiction fun h => c3 (.inl (.inr h)), Classical.byContradiction fun h => c3 (.inr h)⟩
        · exact hn j (by omega)
    · repeat first | refine nx ?_ | intro _
      unfold slB
      rw [decide_eq_true c, Bool.true_and]
      exact (List.all_eq_true.2 fun j hj => hn j (by have := List.mem_range.1 hj; omega)).symm
end Go.E3
