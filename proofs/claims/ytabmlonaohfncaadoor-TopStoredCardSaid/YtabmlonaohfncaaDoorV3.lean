/- V3: a part of the proofs about what is clipped and stored: how the program's functions run, and what they compute, for every input. -/
import Derived.Test.YtabmlonaohfncaaDoorV2
import Derived.Test.YtabmlonaohfncaaDoorEarT23
set_option linter.all false
set_option linter.unusedVariables false
set_option maxRecDepth 20000
set_option maxHeartbeats 8000000
set_option synthInstance.maxSize 1000
namespace Go.E3
open Go Go.Ear Go.Proofs
structure Ls where
  st : Int
  bl : List Int
  blocks : Int
  samples : Int
  run : Int
  begin : Int
  free : Int
@[reducible] def lsc (g : Gt) (s : Ls) : List SV := [iv g.block, iv g.high, iv g.low, iv g.rise, iv g.fall, iv g.lead, iv g.longest, bv true, iv s.st, lv rI s.bl, iv s.blocks, iv s.samples, iv s.run, iv s.begin, iv s.free]
def prS (g : Gt) (s : Ls) (n : Int) : Ls × Int × Int × Bool :=
  if s.st = 0 then
    if (if g.high * g.block ≤ n then s.run + 1 else 0) = g.rise then ({ s with st := 1, blocks := s.blocks + 1, run := 0, begin := max (s.blocks - g.rise + 1 - g.lead) s.free }, 0, 0, false)
    else ({ s with blocks := s.blocks + 1, run := if g.high * g.block ≤ n then s.run + 1 else 0 }, 0, 0, false)
  else
    if (if n < g.low * g.block then s.run + 1 else 0) = g.fall then ({ s with st := 0, blocks := s.blocks + 1, run := 0, free := s.blocks - g.fall + 1 }, s.begin * g.block, (s.blocks - g.fall + 1) * g.block, true)
    else if s.blocks - s.begin + 1 = g.longest then ({ s with st := 0, blocks := s.blocks + 1, run := 0, free := s.blocks + 1 }, s.begin * g.block, (s.blocks + 1) * g.block, true)
    else ({ s with blocks := s.blocks + 1, run := if n < g.low * g.block then s.run + 1 else 0 }, 0, 0, false)
structure LsB (s : Ls) : Prop where
  blocks : ¬ (s.blocks < 0 ∨ 300 < s.blocks)
  run : ¬ (s.run < 0 ∨ s.blocks < s.run)
  begin : ¬ (s.begin < -5000 ∨ 5000 < s.begin)
  free : ¬ (s.free < -5000 ∨ 5000 < s.free)
theorem prod_bd {a b : Int} {A B : Int} (ha : 0 ≤ a) (hA : a ≤ A) (hb : 1 ≤ b) (hB : b ≤ B) (hA0 : 0 ≤ A) : ¬ (a * b < 0 ∨ A * B < a * b) := by
  have h1 := Int.mul_nonneg ha (show 0 ≤ b by omega)
  have h2 := Int.mul_le_mul hA hB (by omega) hA0
  omega
theorem prod_bd2 {a b : Int} {A B : Int} (ha : -A ≤ a) (hA : a ≤ A) (hb : 1 ≤ b) (hB : b ≤ B) : ¬ (a * b < -(A * B) ∨ A * B < a * b) := by
  have h2 := Int.mul_le_mul hA hB (by omega) (by omega)
  have h3 := Int.mul_le_mul (show -a ≤ A by omega) hB (by omega) (by omega)
  rw [Int.neg_mul] at h3
  omega
theorem process_b {g : Gt} {s : Ls} {v : Value} {b : List Int} {rest : List Res} : CtR Tryd.prog 63 [ov v, lv rI b] (rV v (lsc g s) 99 :: rest) (g.Ok ∧ LsB s ∧ b.length ≤ 4096 ∧ ∀ z ∈ b, ¬ (z < -32768 ∨ 32768 < z)) Unit (fun _ => .tp [.ag [iv (prS g s (engL b)).2.1, iv (prS g s (engL b)).2.2.1], bv (prS g s (engL b)).2.2.2]) (fun _ => rV v (lsc g (prS g s (engL b)).1) 99 :: rest) := by
  refine (ctR Tryd.call63 Tryd.func63 Tryd.ntmps63 rfl Tryd.results63 rfl [] fun h0 w0 ⟨gk, sb, hl, hz⟩ => ?_)
  have p1 := prod_bd (by have := gk.low; omega) gk.high gk.block.1 gk.block.2 (by omega)
  have p2 := prod_bd gk.low.1 (Int.le_trans gk.low.2 gk.high) gk.block.1 gk.block.2 (by omega)
  have b1 := sb.blocks
  have b2 := sb.run
  have b3 := sb.begin
  have b4 := sb.free
  have k1 : ¬ (g.rise < 1 ∨ 1000 < g.rise) := by have := gk.rise; omega
  have k2 : ¬ (g.fall < 1 ∨ 1000 < g.fall) := by have := gk.fall; omega
  have k3 : ¬ (g.lead < 0 ∨ 1000 < g.lead) := by have := gk.lead; omega
  have k4 := prod_bd2 (a := s.begin) (A := 5000) (by omega) (by omega) gk.block.1 gk.block.2
  have k5 := prod_bd2 (a := s.blocks - g.fall + 1) (A := 5000) (by omega) (by omega) gk.block.1 gk.block.2
  have k6 := prod_bd2 (a := s.blocks + 1) (A := 5000) (by omega) (by omega) gk.block.1 gk.block.2
  clear gk sb
  repeat first | refine gZs 14 10 11 13 ⟨6, fun γ => ov γ.v, fun γ => rV γ.v [iv 0, iv 0, iv 0, iv 0, iv 0, iv 0, iv 0] 45, fun γ => rV γ.v [iv g.block, iv g.high, iv g.low, iv g.rise, iv g.fall, iv g.lead, iv g.longest] 45⟩ (by rfl) (by kernel_rfl) ?_ | refine gDs 16 15 (by rfl) (by kernel_rfl) ?_ | refine gDs 17 15 (by rfl) (by kernel_rfl) ?_ | refine gDs 8 7 (by rfl) (by kernel_rfl) ?_ | refine gDs 11 10 (by rfl) (by kernel_rfl) ?_ | refine nx ?_ | intro _
  refine gIf (fun c => ?_) fun c => ?_
  · repeat first | refine gDs 7 7 (by rfl) (by kernel_rfl) ?_ | refine gDs 17 15 (by rfl) (by kernel_rfl) ?_ | refine gDs 8 7 (by rfl) (by kernel_rfl) ?_ | refine gDs 11 10 (by rfl) (by kernel_rfl) ?_ | refine nx ?_ | intro _
    refine gIf (fun c2 => ?_) fun c2 => ?_ <;> repeat first | refine gDs 7 7 (by rfl) (by kernel_rfl) ?_ | refine gDs 17 15 (by rfl) (by kernel_rfl) ?_ | refine gDs 8 7 (by rfl) (by kernel_rfl) ?_ | refine gDs 11 10 (by rfl) (by kernel_rfl) ?_ | refine nx ?_ | intro _
    · have hp : prS g s (engL b) = ({ s with st := 1, blocks := s.blocks + 1, run := 0, begin := max (s.blocks - g.rise + 1 - g.lead) s.free }, 0, 0, false) := by
        unfold prS; rw [if_pos c, if_pos (by simpa using c2)]
      exact gEr () (h1 := by rw [hp]; simp) (h2 := by rw [hp]; simp)
    · have hp : prS g s (engL b) = ({ s with blocks := s.blocks + 1, run := if g.high * g.block ≤ engL b then s.run + 1 else 0 }, 0, 0, false) := by
        unfold prS; rw [if_pos c, if_neg (by simpa using c2)]
      exact gEr () (h1 := by rw [hp]; simp) (h2 := by rw [hp]; simp)
  · repeat first | refine gDs 7 7 (by rfl) (by kernel_rfl) ?_ | refine gDs 17 15 (by rfl) (by kernel_rfl) ?_ | refine gDs 8 7 (by rfl) (by kernel_rfl) ?_ | refine gDs 11 10 (by rfl) (by kernel_rfl) ?_ | refine nx ?_ | intro _
    refine gIf (fun c2 => ?_) fun c2 => ?_ <;> repeat first | refine gDs 7 7 (by rfl) (by kernel_rfl) ?_ | refine gDs 17 15 (by rfl) (by kernel_rfl) ?_ | refine gDs 8 7 (by rfl) (by kernel_rfl) ?_ | refine gDs 11 10 (by rfl) (by kernel_rfl) ?_ | refine nx ?_ | intro _
    · have hp : prS g s (engL b) = ({ s with st := 0, blocks := s.blocks + 1, run := 0, free := s.blocks - g.fall + 1 }, s.begin * g.block, (s.blocks - g.fall + 1) * g.block, true) := by
        unfold prS; rw [if_neg c, if_pos (by simpa using c2)]
      exact gEr () (h1 := by rw [hp]; simp) (h2 := by rw [hp]; simp)
    · refine gIf (fun c3 => ?_) fun c3 => ?_ <;> repeat first | refine gDs 7 7 (by rfl) (by kernel_rfl) ?_ | refine gDs 17 15 (by rfl) (by kernel_rfl) ?_ | refine gDs 8 7 (by rfl) (by kernel_rfl) ?_ | refine gDs 11 10 (by rfl) (by kernel_rfl) ?_ | refine nx ?_ | intro _
      · have hp : prS g s (engL b) = ({ s with st := 0, blocks := s.blocks + 1, run := 0, free := s.blocks + 1 }, s.begin * g.block, (s.blocks + 1) * g.block, true) := by
          unfold prS; rw [if_neg c, if_neg (by simpa using c2), if_pos c3]
        exact gEr () (h1 := by rw [hp]; simp) (h2 := by rw [hp]; simp)
      · have hp : prS g s (engL b) = ({ s with blocks := s.blocks + 1, run := if engL b < g.low * g.block then s.run + 1 else 0 }, 0, 0, false) := by
          unfold prS; rw [if_neg c, if_neg (by simpa using c2), if_neg c3]
        exact gEr () (h1 := by rw [hp]; simp) (h2 := by rw [hp]; simp)
end Go.E3
