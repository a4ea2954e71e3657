/- G4: a part of the proofs about package model: how the program's functions run, and what they compute, for every input. -/
import Derived.Test.YtpmndikbfalfoaaGreatK11
import Derived.Test.YtpmndikbfalfoaaGreatT3
set_option linter.all false
set_option linter.unusedVariables false
namespace Go.E3
open Go.Ear
set_option maxRecDepth 100000
open Go.ChangeShapes Go.WideShapes Go.RowKit Go.Joins Go.Deep Go.ChangeAt Go.Proofs Go.Proofs.YtpmndikbfalfoaaGreat
@[reducible] def cMd (c : CtF) : Md := ⟨c.start, c.move, c.fin, c.say⟩
structure UpC (c : CtF) : Prop where
  k : UpK (cMd c)
  u : -9223372036854775808 ≤ c.used ∧ c.used ≤ 9223372036854775807
  n : -9223372036854775808 ≤ c.unused ∧ c.unused ≤ 9223372036854775807
section
variable {H : Type} {enc : TypeId × Value → H} {W : World}
theorem list6 {α : Type} {l : List α} (h : l.length = 6) : ∃ a b c d e f, l = [a, b, c, d, e, f] := by
  match l, h with
  | [a, b, c, d, e, f], _ => exact ⟨a, b, c, d, e, f, rfl⟩
theorem openCounts {r : Reach} {b0 : Nat} {v : Value} {d : DataW H} {p : List MemPlace} (hv : Value.okWide Tryz.prog W r b0 48 v) (h : DataW.Trod enc Tryz.prog W 0 (fun _ => true) true 48 v d p) (hb : bulk d ≤ 1048576) : ∃ c, den (PHof W) (cF c) v ∧ UpC c := by
  obtain ⟨cs, rfl, hsz⟩ := okWide_struct Tryz.underlying48 hv
  obtain ⟨l⟩ := cs
  obtain ⟨c0, c1, c2, c3, c4, c5, rfl⟩ := list6 (l := l) (by simpa using hsz.trans cells48)
  obtain ⟨fuel, hf⟩ := h
  obtain ⟨xs, n, _, hx, hl, hlen, hg⟩ := DataW.trod_struct Tryz.underlying48 hf
  obtain ⟨y0, y1, y2, y3, y4, y5, rfl⟩ := list6 (l := xs) (by simpa using hlen)
  have g0 := hg 0 _ rfl
  have g1 := hg 1 _ rfl
  have g2 := hg 2 _ rfl
  have g3 := hg 3 _ rfl
  have g4 := hg 4 _ rfl
  have g5 := hg 5 _ rfl
  have k23 : Tryz.prog.cellsOf 23 = 1 := by kernel_rfl
  replace g0 : DataW.trod enc Tryz.prog W 0 (fun _ => true) true n 22 [c0] = some y0 := by simpa [Value.cells, cells22] using g0
  replace g1 : DataW.trod enc Tryz.prog W 0 (fun _ => true) true n 23 [c1] = some y1 := by simpa [Value.cells, k23] using g1
  replace g2 : DataW.trod enc Tryz.prog W 0 (fun _ => true) true n 22 [c2] = some y2 := by simpa [Value.cells, cells22] using g2
  replace g3 : DataW.trod enc Tryz.prog W 0 (fun _ => true) true n 23 [c3] = some y3 := by simpa [Value.cells, k23] using g3
  replace g4 : DataW.trod enc Tryz.prog W 0 (fun _ => true) true n 3 [c4] = some y4 := by simpa [Value.cells, cellsT3] using g4
  replace g5 : DataW.trod enc Tryz.prog W 0 (fun _ => true) true n 3 [c5] = some y5 := by simpa [Value.cells, cellsT3] using g5
  obtain ⟨_, l0, e0, u0, b0, q0⟩ := openLF g0
  obtain ⟨_, l1, e1, u1, b1, q1⟩ := openLLF g1
  obtain ⟨_, l2, e2, u2, b2, q2⟩ := openLF g2
  obtain ⟨_, l3, e3, u3, b3, q3⟩ := openLLF g3
  obtain ⟨z4, e4, u4, b4, q4⟩ := el_I n [c4] y4 g4
  obtain ⟨z5, e5, u5, b5, q5⟩ := el_I n [c5] y5 g5
  cases e0; cases e1; cases e2; cases e3
  have hd : d = .agg [y0.1, y1.1, y2.1, y3.1, y4.1, y5.1] := by simpa using congrArg Prod.fst hx
  rw [hd, bulk_agg] at hb
  simp only [Rows.uptoBulkAll] at hb
  exact ⟨⟨l0, l1, l2, l3, z4, z5⟩, ⟨_, rfl, u0, u1, u2, u3, u4.1, u5.1, trivial⟩, upK_of (by dsimp only; unfold bulk at *; omega) ⟨q0, q1, q2, q3⟩, q4, q5⟩
end
end Go.E3
