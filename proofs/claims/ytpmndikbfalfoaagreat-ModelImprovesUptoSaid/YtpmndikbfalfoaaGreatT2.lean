/- T2: a part of the proofs about package model: how the program's functions run, and what they compute, for every input. -/
import Derived.Test.YtpmndikbfalfoaaGreatT1
set_option linter.all false
set_option linter.unusedVariables false
set_option maxRecDepth 20000
set_option maxHeartbeats 8000000
set_option synthInstance.maxSize 1000
namespace Go.E3
open Go Go.Ear Go.Proofs
@[reducible] def chM (n : Nat) (s : List Rat) (l y : Nat → List Rat) : Md := Go.Ear.mdK s ((List.range n).map fun i => (l i).take n) ((List.range n).map fun i => (l i).getD n 0) ((List.range n).map y)
theorem chM_mv {n : Nat} {l : Nat → List Rat} : ((List.range n).map fun i => ((l i).map frK).take n) = ((List.range n).map fun i => (l i).take n).map (·.map frK) := by
  rw [List.map_map]; exact List.map_congr_left fun i _ => List.map_take.symm
theorem chM_fn {n : Nat} {l : Nat → List Rat} : ((List.range n).map fun i => ((l i).map frK).getD n fr0) = ((List.range n).map fun i => (l i).getD n 0).map frK := by
  rw [List.map_map]; exact List.map_congr_left fun i _ => getD_K _ _
theorem chM_sy {n : Nat} {y : Nat → List Rat} : ((List.range n).map fun i => (y i).map frK) = ((List.range n).map y).map (·.map frK) := by rw [List.map_map]; rfl
theorem range_take_succ {α : Type} (f : Nat → α) (k : Nat) : (List.range k).map f ++ [f k] = (List.range (k + 1)).map f := by rw [List.range_succ, List.map_append]; rfl
section
variable {m : Md} {n : Nat} {S F : SV} {sS : Prop} {sL sY : Nat → Prop} {bS : List Rat} {bL bY : Nat → List Rat}
instance changed_c [i : VM S m] [f0 : Fv Tryz.prog F [sStart, iv 0, lv rF m.start] [] sS (lv rF (bS.map frK))] [f1 : ∀ i : Nat, Fv Tryz.prog F [sLeave, iv (i : Int), lv rF (m.move.getD i [] ++ [m.fin.getD i fr0])] [] (sL i) (lv rF ((bL i).map frK))] [f2 : ∀ i : Nat, Fv Tryz.prog F [sSay, iv (i : Int), lv rF (m.say.getD i [])] [] (sY i) (lv rF ((bY i).map frK))] :
    Ct Tryz.prog 176 [S, F] ((m.start.length ≤ 1000 ∧ m.start.length ≤ m.move.length ∧ m.start.length ≤ m.fin.length ∧ m.start.length ≤ m.say.length) ∧ (∀ i, i < m.start.length → (bL i).length = m.start.length + 1 ∧ wts (m.move.getD i []) ≤ 100000000 ∧ sL i ∧ sY i) ∧ sS) (mv (chM m.start.length bS bL bY)) := by
  haveI := i.t
  refine ct2 i.v (v2 := fun _ : Unit => F) (y := ()) ⟨fun u => u⟩ (ctI Tryz.call176 Tryz.func176 Tryz.ntmps176 rfl Tryz.results176 rfl [] fun h0 w0 ⟨⟨h1, h2, h3, h4⟩, h5, h6⟩ => ?_)
  repeat first | refine nx ?_ | intro _
  refine gNl (rL rF) 22 ?_
  refine gNl (rL rF) 22 ?_
  refine gNl rF 31 ?_
  rename_i v4 v5
  refine gLp (fun s : Nat × Value × Value × Value => [(18, iv s.1)]) (fun s => [rV v5 [lv rF (bS.map frK), ov s.2.1, ov s.2.2.1, ov s.2.2.2] 25, rA (rL rF) 22 s.2.1 ((List.range s.1).map fun i => ((bL i).map frK).take m.start.length), rA rF 31 s.2.2.1 ((List.range s.1).map fun i => ((bL i).map frK).getD m.start.length fr0), rA (rL rF) 22 s.2.2.2 ((List.range s.1).map fun i => (bY i).map frK)]) (fun s => s.1 ≤ m.start.length) (fun s => m.start.length - s.1) (0, .slice none 0 0, .slice none 0 0, .slice none 0 0) (Nat.zero_le _) fun ⟨k, v1, v2, v3⟩ hk => ?_
  dsimp only at *
  repeat first | refine nx ?_ | intro _
  refine gIf (fun c => ?_) fun c => ?_
  · obtain ⟨h7, h8, h9, h10⟩ := h5 k c
    have hl1 : ((List.range k).map fun i => ((bL i).map frK).take m.start.length).length = k := by simp
    have hl2 : ((List.range k).map fun i => ((bL i).map frK).getD m.start.length fr0).length = k := by simp
    have hl3 : ((List.range k).map fun i => (bY i).map frK).length = k := by simp
    have hl4 : ((bL k).map frK).length = m.start.length + 1 := by rw [List.length_map]; exact h7
    repeat first | refine gDv 20 7 15 17 (by rfl) (by kernel_rfl) ?_ | refine gDs 14 12 (by rfl) (by kernel_rfl) ?_ | refine nx ?_ | intro _
    rename_i w1 w2 _ w3
    rw [range_take_succ fun i => ((bL i).map frK).take m.start.length, range_take_succ fun i => ((bL i).map frK).getD m.start.length fr0, range_take_succ fun i => (bY i).map frK]
    exact gBk (k + 1, w1, w2, w3) (by dsimp only; omega) (by dsimp only; omega)
  · have ek : k = m.start.length := by omega
    subst ek
    refine gFz v1 ?_
    refine gFz v2 ?_
    refine gFz v3 ?_
    repeat first | refine nx ?_ | intro _
    exact ⟨rfl, chM_mv, chM_fn, chM_sy⟩
end
end Go.E3
