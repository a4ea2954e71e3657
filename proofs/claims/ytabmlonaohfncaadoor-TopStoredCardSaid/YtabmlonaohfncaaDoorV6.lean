/- V6: a part of the proofs about what is clipped and stored: how the program's functions run, and what they compute, for every input. -/
import Derived.Test.YtabmlonaohfncaaDoorV5
set_option linter.all false
set_option linter.unusedVariables false
set_option maxRecDepth 20000
set_option maxHeartbeats 8000000
set_option synthInstance.maxSize 1000
namespace Go.E3
open Go Go.Ear Go.Proofs
open Classical in
noncomputable def sgE (g : Gt) : Int := if g.Ok then 0 else 2
open Classical in
noncomputable def sgL (g : Gt) (x : List Int) : List (Int × Int) := if g.Ok then (fdS g x (x.length / g.block.toNat)).2 ++ clS g (fdS g x (x.length / g.block.toNat)).1 else []
theorem sgL_len {g : Gt} {x : List Int} (h : x.length ≤ 300) : (sgL g x).length ≤ 301 := by
  unfold sgL
  split
  · rw [List.length_append]
    have h1 := fdS_len (g := g) (x := x) (x.length / g.block.toNat)
    have h2 : x.length / g.block.toNat ≤ x.length := Nat.div_le_self _ _
    have h3 : (clS g (fdS g x (x.length / g.block.toNat)).1).length ≤ 1 := by unfold clS; split <;> simp
    omega
  · simp
instance feed_c {g : Gt} {v : Value} {x : List Int} {B B1 : List Res} [pv : PV B v (lsc g ls0) 99 B1] : CtR Tryd.prog 41 [ov v, lv rI x] B (g.Ok ∧ x.length ≤ 300 ∧ x.any (outI (-32768) 32767) = false) Value (fun o => .tp [ov o, iv 0]) (fun o => rA rSg 39 o (fdS g x (x.length / g.block.toNat)).2 :: rV v (lsc g (fdE g x)) 99 :: B1) := feed_b.to pv.h
instance segments_c {g : Gt} {x : List Int} : Ct Tryd.prog 15 [lv rI x, gtv g] (x.length ≤ 300 ∧ x.any (outI (-32768) 32767) = false) (.tp [lv rSg (sgL g x), iv (sgE g)]) := by
  refine (ctI Tryd.call15 Tryd.func15 Tryd.ntmps15 rfl Tryd.results15 rfl [14, 22, 31] fun h0 w0 ⟨hl, hz⟩ => ?_)
  by_cases ok : g.Ok
  · haveI := fun B => listenOk (B := B) ok
    have hE : sgE g = 0 := if_pos ok
    have hL : sgL g x = (fdS g x (x.length / g.block.toNat)).2 ++ clS g (fdS g x (x.length / g.block.toNat)).1 := if_pos ok
    rw [hE, hL]
    have hN : x.length / g.block.toNat ≤ 300 := Nat.le_trans (Nat.div_le_self _ _) hl
    obtain ⟨q1, q2, q3, q4, q5⟩ := fdS_B (x := x) ok (x.length / g.block.toNat) hN
    repeat first | refine nx ?_ | intro _
    refine gIf (fun c => absurd c (by omega)) fun c => ?_
    repeat first | refine nx ?_ | intro _
    refine gIf (fun c => absurd c (by simp)) fun c => ?_
    repeat first | refine nx ?_ | intro _
    have hlen := fdS_len (g := g) (x := x) (x.length / g.block.toNat)
    have hce : clS g (fdE g x) = clS g (fdS g x (x.length / g.block.toNat)).1 := rfl
    have hst : (fdE g x).st = 0 ∨ (fdE g x).st = 1 := q5
    have hcl : (clS g (fdE g x)).length ≤ 1 := by unfold clS; split <;> simp
    have hlb : LsB (fdE g x) := ⟨q1.blocks, q1.run, q1.begin, q1.free⟩
    refine gIf (fun c => absurd c (by simp)) fun c => ?_
    repeat first | refine nx ?_ | intro _
    rw [hce]
    exact ⟨rfl, trivial⟩
  · haveI := listenNo ok
    have hE : sgE g = 2 := if_neg ok
    have hL : sgL g x = [] := if_neg ok
    rw [hE, hL]
    repeat first | refine nx ?_ | intro _
    refine gIf (fun c => absurd c (by omega)) fun c => ?_
    repeat first | refine nx ?_ | intro _
    refine gIf (fun c => ?_) fun c => absurd c (by simp)
    repeat first | refine nx ?_ | intro _
    trivial
end Go.E3
