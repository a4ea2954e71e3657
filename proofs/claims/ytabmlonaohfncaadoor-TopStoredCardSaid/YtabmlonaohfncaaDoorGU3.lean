/- GU3: a part of the proofs about what is clipped and stored: how the program's functions run, and what they compute, for every input. -/
import Derived.Test.YtabmlonaohfncaaDoorGU2
import Derived.Test.YtabmlonaohfncaaDoorV2
set_option linter.all false
set_option linter.unusedVariables false
namespace Go.E3
open Go.Ear
set_option maxRecDepth 100000
open Go.ChangeShapes Go.WideShapes Go.RowKit Go.Joins Go.Deep Go.ChangeAt Go.Proofs Go.Proofs.YtabmlonaohfncaaDoor
theorem openGate {H : Type} {enc : TypeId × Value → H} {W : World} {r : Reach} {b0 : Nat} {v : Value} {d : DataW H} {p : List MemPlace} (hv : Value.okWide Tryd.prog W r b0 45 v) (h : DataW.Trod enc Tryd.prog W 0 (fun _ => true) true 45 v d p) : ∃ q : Gt, den (PHof W) (gtv q) v := by
  obtain ⟨cs, n, rfl, hn, hf⟩ := open_aggN Tryd.underlying45 (by kernel_rfl) cells45 hv h
  match cs, hn with
  | [c0, c1, c2, c3, c4, c5, c6], _ =>
    obtain ⟨c, y, e, g0⟩ := hf 0 _ rfl; cases e; obtain ⟨z0, e0, _⟩ := DataW.trod_int Tryd.underlying3 g0; cases e0
    obtain ⟨c, y, e, g1⟩ := hf 1 _ rfl; cases e; obtain ⟨z1, e1, _⟩ := DataW.trod_int Tryd.underlying3 g1; cases e1
    obtain ⟨c, y, e, g2⟩ := hf 2 _ rfl; cases e; obtain ⟨z2, e2, _⟩ := DataW.trod_int Tryd.underlying3 g2; cases e2
    obtain ⟨c, y, e, g3⟩ := hf 3 _ rfl; cases e; obtain ⟨z3, e3, _⟩ := DataW.trod_int Tryd.underlying3 g3; cases e3
    obtain ⟨c, y, e, g4⟩ := hf 4 _ rfl; cases e; obtain ⟨z4, e4, _⟩ := DataW.trod_int Tryd.underlying3 g4; cases e4
    obtain ⟨c, y, e, g5⟩ := hf 5 _ rfl; cases e; obtain ⟨z5, e5, _⟩ := DataW.trod_int Tryd.underlying3 g5; cases e5
    obtain ⟨c, y, e, g6⟩ := hf 6 _ rfl; cases e; obtain ⟨z6, e6, _⟩ := DataW.trod_int Tryd.underlying3 g6; cases e6
    exact ⟨⟨z0, z1, z2, z3, z4, z5, z6⟩, [_, _, _, _, _, _, _], rfl, rfl, rfl, rfl, rfl, rfl, rfl, rfl, trivial⟩
end Go.E3
