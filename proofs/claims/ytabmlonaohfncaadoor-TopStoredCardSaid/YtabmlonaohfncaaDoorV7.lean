/- V7: a part of the proofs about what is clipped and stored: how the program's functions run, and what they compute, for every input. -/
import Derived.Test.YtabmlonaohfncaaDoorV6
import Derived.Test.YtabmlonaohfncaaDoorEarT25
set_option linter.all false
set_option linter.unusedVariables false
set_option maxRecDepth 20000
set_option maxHeartbeats 8000000
set_option synthInstance.maxSize 1000
namespace Go.E3
open Go Go.Ear Go.Proofs
def byL (n k : Nat) : List Nat := (List.range k).map fun i => n / 256 ^ i % 256
theorem byL_len {n k : Nat} : (byL n k).length = k := by unfold byL; simp
theorem byL_succ {n k : Nat} : byL n (k + 1) = byL n k ++ [n / 256 ^ k % 256] := by unfold byL; rw [List.range_succ, List.map_append]; rfl
theorem put_b {n k : Nat} {l : List Nat} {p o : Value} {rest : List Res} : CtR Tryd.prog 37 [.cv (.int .u32 (n : Int)), iv (k : Int), ov p] (rV p [ov o] 46 :: rA rY 5 o l :: rest) (k ≤ 4 ∧ l.length ≤ 1000000) Value (fun _ => .tp []) (fun o => rV p [ov o] 46 :: rA rY 5 o (l ++ byL n k) :: rest) := by
  refine (ctR Tryd.call37 Tryd.func37 Tryd.ntmps37 rfl Tryd.results37 rfl [] fun h0 w0 ⟨hk, hl⟩ => ?_)
  repeat first | refine nx ?_ | intro _
  refine gLp (fun s : Nat × Value => [(6, iv s.1), (0, .cv (.int .u32 ((n / 256 ^ s.1 : Nat) : Int)))]) (fun s => [rV p [ov s.2] 46, rA rY 5 s.2 (l ++ byL n s.1)]) (fun s => s.1 ≤ k) (fun s => k - s.1) (0, o) (Nat.zero_le _) (fun ⟨j, o2⟩ hj => ?_) (h1 := by simp) (h2 := by simp [byL])
  dsimp only at *
  have hbl : (l ++ byL n j).length ≤ 1000004 := by rw [List.length_append, byL_len]; omega
  repeat first | refine nx ?_ | intro _
  refine gIf (fun c1 => ?_) fun c1 => ?_
  · repeat first | refine nx ?_ | intro _
    rename_i o3
    exact gBk (j + 1, o3) (by dsimp only; omega) (by dsimp only; omega) (h1 := by
      refine ⟨by simp, ?_⟩
      simp [Nat.pow_succ, Nat.div_div_eq_div_mul]) (h2 := by rw [byL_succ]; simp)
  · have e : j = k := by omega
    subst e
    repeat first | refine nx ?_ | intro _
    exact gEr o2
theorem put0_b {n k : Nat} {l : List Nat} {p : Value} {rest : List Res} : CtR Tryd.prog 37 [.cv (.int .u32 (n : Int)), iv (k : Int), ov p] (rV p [flv rY l] 46 :: rest) ((1 ≤ k ∧ k ≤ 4) ∧ l.length ≤ 1000000) Value (fun _ => .tp []) (fun o => rV p [ov o] 46 :: rA rY 5 o (l ++ byL n k) :: rest) := by
  refine (ctR Tryd.call37 Tryd.func37 Tryd.ntmps37 rfl Tryd.results37 rfl [] fun h0 w0 ⟨⟨hk1, hk⟩, hl⟩ => ?_)
  repeat first | refine nx ?_ | intro _
  refine gL1 (fun s : Nat × Value => [(6, iv s.1), (0, .cv (.int .u32 ((n / 256 ^ s.1 : Nat) : Int))), (5, iv k), (2, ov p)]) (fun s => rV p [ov s.2] 46 :: rA rY 5 s.2 (l ++ byL n s.1) :: rest) (fun s => 1 ≤ s.1 ∧ s.1 ≤ k) (fun s => k - s.1) (0, p) ?_ (fun ⟨j, o2⟩ ⟨hj1, hj⟩ => ?_)
  · repeat first | refine nx ?_ | intro _
    refine gIf (fun c1 => ?_) fun c1 => absurd c1 (by omega)
    repeat first | refine nx ?_ | intro _
    rename_i o3
    exact gBk (1, o3) (by dsimp only; omega) (by dsimp only; omega) (h1 := by simp) (h2 := by simp [byL])
  dsimp only at *
  have hbl : (l ++ byL n j).length ≤ 1000004 := by rw [List.length_append, byL_len]; omega
  repeat first | refine nx ?_ | intro _
  refine gIf (fun c1 => ?_) fun c1 => ?_
  · repeat first | refine nx ?_ | intro _
    rename_i o3
    exact gBk (j + 1, o3) (by dsimp only; omega) (by dsimp only; omega) (h1 := by
      refine ⟨by simp, ?_⟩
      simp [Nat.pow_succ, Nat.div_div_eq_div_mul]) (h2 := by rw [byL_succ]; simp)
  · have e : j = k := by omega
    subst e
    repeat first | refine nx ?_ | intro _
    exact gEr o2
end Go.E3
