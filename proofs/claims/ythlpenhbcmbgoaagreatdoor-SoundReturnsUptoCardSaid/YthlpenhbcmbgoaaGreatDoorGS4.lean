/- GS4: a part of the proofs about what is clipped and stored: how the program's functions run, and what they compute, for every input. -/
import Derived.Test.YthlpenhbcmbgoaaGreatDoorGS3
import Derived.Test.YthlpenhbcmbgoaaGreatDoorA32
set_option linter.all false
set_option linter.unusedVariables false
namespace Go.E3
open Go.Ear
set_option maxRecDepth 100000
open Go.ChangeShapes Go.WideShapes Go.RowKit Go.Joins Go.Deep Go.ChangeAt Go.Proofs Go.Proofs.YthlpenhbcmbgoaaGreatDoor
section
variable {H : Type} {enc : TypeId × Value → H} {W : World}
theorem el_R (n : Nat) (cs : List Value) (y : DataW H × List MemPlace) (h : DataW.trod enc Tryz.prog W 0 (fun _ => true) true n 59 cs = some y) : ∃ e : Rw, cs.length = rR.k ∧ rR.R (PHof W) cs e ∧ 1 ≤ bulk y.1 ∧ (Fit e.f.n ∧ Fit e.f.d) := by
  obtain ⟨xs, m, _, hx, hl, hlen, hg⟩ := DataW.trod_struct Tryz.underlying59 h
  rw [cells59] at hl
  match cs, hl with
  | [c0, c1, c2, c3, c4, c5, c6], _ =>
    have g0 := hg 0 _ rfl
    have g1 := hg 1 _ rfl
    have g2 := hg 2 _ rfl
    have g3 := hg 3 _ rfl
    have g4 := hg 4 _ rfl
    have h3 : xs.length = 5 := hlen
    match xs, h3 with
    | [y0, y1, y2, y3, y4], _ =>
      have g0 : DataW.trod enc Tryz.prog W 0 (fun _ => true) true m 26 ([c0, c1, c2, c3, c4, c5, c6].take (Tryz.prog.cellsOf 26)) = some y0 := g0
      have g1 : DataW.trod enc Tryz.prog W 0 (fun _ => true) true m 26 ([c1, c2, c3, c4, c5, c6].take (Tryz.prog.cellsOf 26)) = some y1 := g1
      have g2 : DataW.trod enc Tryz.prog W 0 (fun _ => true) true m 26 ([c2, c3, c4, c5, c6].take (Tryz.prog.cellsOf 26)) = some y2 := g2
      have g3 : DataW.trod enc Tryz.prog W 0 (fun _ => true) true m 26 ([c3, c4, c5, c6].take (Tryz.prog.cellsOf 26)) = some y3 := g3
      have g4 : DataW.trod enc Tryz.prog W 0 (fun _ => true) true m 32 ([c4, c5, c6].take (Tryz.prog.cellsOf 32)) = some y4 := g4
      rw [cells26] at g0 g1 g2 g3; rw [cells32] at g4
      obtain ⟨v0, l0, e0, u0, _, _⟩ := openLI g0
      obtain ⟨v1, l1, e1, u1, _, _⟩ := openLI g1
      obtain ⟨v2, l2, e2, u2, _, _⟩ := openLI g2
      obtain ⟨v3, l3, e3, u3, _, _⟩ := openLI g3
      obtain ⟨f, hf1, hf2, b2, q2⟩ := el_F _ _ _ g4
      have e0 : [c0] = [v0] := e0
      have e1 : [c1] = [v1] := e1
      have e2 : [c2] = [v2] := e2
      have e3 : [c3] = [v3] := e3
      cases e0; cases e1; cases e2; cases e3
      obtain ⟨a, b, c, _⟩ := (show denL (PHof W) [bv f.neg, lv rU f.n, lv rU f.d] [c4, c5, c6] from hf2)
      exact ⟨⟨l0, l1, l2, l3, f⟩, rfl, ⟨u0, u1, u2, u3, a, b, c, trivial⟩, bulk_one _, q2.h⟩
theorem openRules {r : Reach} {b0 : Nat} {v : Value} {d : DataW H} {p : List MemPlace} (hv : Value.okWide Tryz.prog W r b0 41 v) (h : DataW.Trod enc Tryz.prog W 0 (fun _ => true) true 41 v d p) (hb : bulk d ≤ 1048576) : ∃ l, den (PHof W) (lv rR l) v ∧ UpR l := by
  obtain ⟨a0, len, cap, rfl⟩ := okWide_slice Tryz.underlying41 hv
  obtain ⟨fuel, hf⟩ := h
  obtain ⟨_, l, e, u, b, q⟩ := openLR (r := rR) (fun _ => 1) rw0 (by decide) Tryz.underlying41 cells59 el_R hf
  rw [sum_one] at b
  cases e
  exact ⟨l, u, by dsimp only at b; omega, q⟩
theorem el_Q (n : Nat) (cs : List Value) (y : DataW H × List MemPlace) (h : DataW.trod enc Tryz.prog W 0 (fun _ => true) true n 9 cs = some y) : ∃ z : ByteArray, cs.length = rQ.k ∧ rQ.R (PHof W) cs z ∧ 1 ≤ bulk y.1 ∧ True := by
  obtain ⟨s, rfl, _, _⟩ := DataW.trod_string Tryz.underlying9 h
  exact ⟨s, rfl, ⟨rfl, trivial⟩, bulk_one _, trivial⟩
theorem openWords {r : Reach} {b0 : Nat} {v : Value} {d : DataW H} {p : List MemPlace} (hv : Value.okWide Tryz.prog W r b0 25 v) (h : DataW.Trod enc Tryz.prog W 0 (fun _ => true) true 25 v d p) (hb : bulk d ≤ 1048576) : ∃ l, den (PHof W) (lv rQ l) v ∧ l.length ≤ 1048576 := by
  obtain ⟨a0, len, cap, rfl⟩ := okWide_slice Tryz.underlying25 hv
  obtain ⟨fuel, hf⟩ := h
  obtain ⟨_, l, e, u, b, q⟩ := openLR (r := rQ) (fun _ => 1) ByteArray.empty (by decide) Tryz.underlying25 cells9 el_Q hf
  rw [sum_one] at b
  cases e
  exact ⟨l, u, by dsimp only at b; omega⟩
end
end Go.E3
