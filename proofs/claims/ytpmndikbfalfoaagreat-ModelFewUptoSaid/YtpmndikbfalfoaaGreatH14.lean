/- H14: a part of the proofs about package model: how the program's functions run, and what they compute, for every input. -/
import Derived.Test.YtpmndikbfalfoaaGreatH13
set_option linter.all false
set_option linter.unusedVariables false
set_option maxRecDepth 20000
set_option maxHeartbeats 8000000
set_option synthInstance.maxSize 1000
namespace Go.E3
open Go Go.Ear Go.Proofs
abbrev CnT := Value × Value × Value × Value × List Value × List Value
@[reducible] def cnR (s : CnT) (S : List Fr) (M : List (List Fr)) (E : List Fr) (Y : List (List Fr)) (B : List Res) : List Res := rA rF 31 s.1 S :: rA rW 22 s.2.1 s.2.2.2.2.1 :: rZ rF 31 s.2.2.2.2.1 M :: rA rF 31 s.2.2.1 E :: rA rW 22 s.2.2.2.1 s.2.2.2.2.2 :: rZ rF 31 s.2.2.2.2.2 Y :: B
theorem rep_snoc {α : Type} (n : Nat) (x : α) : List.replicate n x ++ [x] = List.replicate (n + 1) x := (List.replicate_succ' ..).symm
instance rEmpty_c {s k : Nat} {B : List Res} : CtR Tryz.prog 96 [iv (s : Int), iv (k : Int)] B (s ≤ 1048576 ∧ k ≤ 1048576) CnT (fun z => .ag [ov z.1, ov z.2.1, ov z.2.2.1, ov z.2.2.2.1, iv 0, iv 0]) (fun z => cnR z (List.replicate s fr0) (List.replicate s (List.replicate s fr0)) (List.replicate s fr0) (List.replicate s (List.replicate k fr0)) B) := by
  refine (ctR Tryz.call96 Tryz.func96 Tryz.ntmps96 rfl Tryz.results96 rfl [8, 10, 20, 27] fun h0 w0 ⟨h1, h2⟩ => ?_)
  repeat first | refine nx ?_ | intro _
  rename_i v4 g1 g2 v5
  refine gNm rF 22 31 ?_
  refine gNm rF 22 31 ?_
  refine gLp (fun z : Nat × Value × List Value × Value × List Value => [(6, iv z.1)]) (fun z => [rV v5 [ov g1.v, ov z.2.1, ov g2.v, ov z.2.2.2.1, iv 0, iv 0] 48, rA rW 22 z.2.1 z.2.2.1, rZ rF 31 z.2.2.1 (List.replicate z.1 (List.replicate s fr0)), rA rW 22 z.2.2.2.1 z.2.2.2.2, rZ rF 31 z.2.2.2.2 (List.replicate z.1 (List.replicate k fr0))]) (fun z => z.1 ≤ s) (fun z => s - z.1) (0, vnil, [], vnil, []) (Nat.zero_le _) (fun ⟨i, mv, vm, yv, vy⟩ hi => ?_)
  dsimp only at hi ⊢
  refine gZl vm fun hvm => ?_
  refine gZl vy fun hvy => ?_
  rw [List.length_replicate] at hvm hvy
  repeat first | refine nx ?_ | intro _
  refine gIf (fun c => ?_) fun c => ?_
  · repeat first | refine gDr 5 (by kernel_rfl) ?_ | refine nx ?_ | intro _
    refine gDb (fun ν => lv rW [(ν 20).v]) [20] ?_
    repeat first | refine gDr 5 (by kernel_rfl) ?_ | refine nx ?_ | intro _
    refine gDb (fun ν => lv rW [(ν 27).v]) [27] ?_
    repeat first | refine nx ?_ | intro _
    rename_i ν1 v1 ν2 v2
    rw [rep_snoc, rep_snoc]
    exact gBk (i + 1, v1, vm ++ [(ν1 20).v], v2, vy ++ [(ν2 27).v]) (by dsimp only; omega) (by dsimp only; omega)
  · have ei : i = s := by omega
    subst ei
    repeat first | refine nx ?_ | intro _
    exact gEr (σ := CnT) (g1.v, mv, g2.v, yv, vm, vy)
end Go.E3
