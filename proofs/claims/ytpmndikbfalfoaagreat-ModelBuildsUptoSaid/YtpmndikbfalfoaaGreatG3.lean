/- G3: a part of the proofs about package model: how the program's functions run, and what they compute, for every input. -/
import Derived.Test.YtpmndikbfalfoaaGreatK11
set_option linter.all false
set_option linter.unusedVariables false
namespace Go.E3
open Go.Ear
set_option maxRecDepth 100000
open Go.ChangeShapes Go.WideShapes Go.RowKit Go.Joins Go.Deep Go.ChangeAt Go.Proofs Go.Proofs.YtpmndikbfalfoaaGreat
section
variable {H : Type} {enc : TypeId × Value → H} {W : World}
def szM (m : Md) : Nat := wts m.start + (m.move.map fun r => wts r + 1).sum + wts m.fin + (m.say.map fun r => wts r + 1).sum + 1
theorem el_M_of {t : TypeId} {f0 f1 f2 f3 : Field} (hs : Tryz.prog.underlying t = some (.struct #[f0, f1, f2, f3])) (hone : oneCellFields Tryz.prog #[f0, f1, f2, f3] = true) (hC : Tryz.prog.cellsOf t = 4) (t0 : f0.type = 22) (t1 : f1.type = 23) (t2 : f2.type = 22) (t3 : f3.type = 23)
    {n : Nat} {cs : List Value} {y : DataW H × List MemPlace} (h : DataW.trod enc Tryz.prog W 0 (fun _ => true) true n t cs = some y) : ∃ m : Md, cs.length = rM.k ∧ rM.R (PHof W) cs m ∧ szM m ≤ bulk y.1 ∧ FtM m := by
  obtain ⟨y0, y1, y2, y3, m, hx, hl, g0, g1, g2, g3⟩ := trod_struct4 hs h
  obtain ⟨o0, k0⟩ := hone_of hone 0 f0 rfl
  obtain ⟨o1, k1⟩ := hone_of hone 1 f1 rfl
  obtain ⟨o2, k2⟩ := hone_of hone 2 f2 rfl
  obtain ⟨o3, k3⟩ := hone_of hone 3 f3 rfl
  rw [hC] at hl
  match cs, hl with
  | [c0, c1, c2, c3], _ =>
    rw [o0, k0, t0] at g0; rw [o1, k1, t1] at g1; rw [o2, k2, t2] at g2; rw [o3, k3, t3] at g3
    obtain ⟨v0, l0, e0, u0, b0, q0⟩ := openLF g0
    obtain ⟨v1, l1, e1, u1, b1, q1⟩ := openLLF g1
    obtain ⟨v2, l2, e2, u2, b2, q2⟩ := openLF g2
    obtain ⟨v3, l3, e3, u3, b3, q3⟩ := openLLF g3
    cases e0; cases e1; cases e2; cases e3
    refine ⟨⟨l0, l1, l2, l3⟩, rfl, ⟨u0, u1, u2, u3, trivial⟩, ?_, ⟨q0, q1, q2, q3⟩⟩
    rw [hx]
    show _ ≤ bulk (.agg [y0.1, y1.1, y2.1, y3.1])
    have := bulk_agg [y0.1, y1.1, y2.1, y3.1]
    simp only [Rows.uptoBulkAll] at this
    unfold szM; dsimp only
    unfold bulk at *; omega
theorem el_M (n : Nat) (cs : List Value) (y : DataW H × List MemPlace) (h : DataW.trod enc Tryz.prog W 0 (fun _ => true) true n 25 cs = some y) : ∃ m : Md, cs.length = rM.k ∧ rM.R (PHof W) cs m ∧ szM m ≤ bulk y.1 ∧ FtM m :=
  el_M_of Tryz.underlying25 (by kernel_rfl) cells25 rfl rfl rfl rfl h
theorem openModels {r : Reach} {b0 : Nat} {v : Value} {d : DataW H} {p : List MemPlace} (hv : Value.okWide Tryz.prog W r b0 75 v) (h : DataW.Trod enc Tryz.prog W 0 (fun _ => true) true 75 v d p) (hb : bulk d ≤ 1048576) : ∃ l, den (PHof W) (lv rM l) v ∧ l.length ≤ 1048576 ∧ ∀ m ∈ l, UpK m := by
  obtain ⟨a0, len, cap, rfl⟩ := okWide_slice Tryz.underlying75 hv
  obtain ⟨fuel, hf⟩ := h
  obtain ⟨v, l, e, u, b, q⟩ := openLR (r := rM) szM md0 (by decide) Tryz.underlying75 cells25 el_M hf
  cases e
  have h1 := sum_len (f := szM) (fun x => by unfold szM; omega) l
  exact ⟨l, u, by dsimp only at b; omega, fun m hm => upK_of (by have := sum_mem (f := szM) hm; unfold szM at this; dsimp only at b; unfold szM at b; omega) (q m hm)⟩
end
end Go.E3
