/- GS2: a part of the proofs about what is clipped and stored: how the program's functions run, and what they compute, for every input. -/
import Derived.Test.YthlpenhbcmbgoaaGreatDoorCards
import Derived.Test.YthlpenhbcmbgoaaGreatDoorTie
import Derived.Deep.DeepHandedRow
import Derived.Lib.LaidTab
import Derived.Stop.LaidErr
import Derived.Test.YthlpenhbcmbgoaaGreatDoorGS1
set_option linter.all false
set_option linter.unusedVariables false
namespace Go.E3
open Go.Ear
set_option maxRecDepth 100000
open Go.ChangeShapes Go.WideShapes Go.RowKit Go.Joins Go.Deep Go.ChangeAt Go.Proofs Go.Proofs.YthlpenhbcmbgoaaGreatDoor
theorem laidOut : laidOutB Tryz.prog = true := by kernel_rfl
theorem ownGodebug : ownKnob Tryz.prog.godebug = none := by kernel_rfl
theorem parOk : ∀ t, t = 24 ∨ t = 22 ∨ t = 41 ∨ t = 25 ∨ t = 26 ∨ t = 9 ∨ t = 3 → Tryz.prog.readableRec t = true ∧ t < Tryz.prog.types.size := by
  rintro t (rfl | rfl | rfl | rfl | rfl | rfl | rfl) <;> exact ⟨by kernel_rfl, of_decide_eq_true (by kernel_rfl)⟩
theorem standIn : ∀ t, t = 24 ∨ t = 22 ∨ t = 41 ∨ t = 25 ∨ t = 26 ∨ t = 9 ∨ t = 3 → Tryz.prog.wantsStandIn t = false := by
  rintro t (rfl | rfl | rfl | rfl | rfl | rfl | rfl) <;> kernel_rfl
theorem noLooks : false = Tryz.pinned.checked.prog.looks [] := by kernel_rfl
theorem cells32 : Tryz.prog.cellsOf 32 = 3 := by kernel_rfl
theorem cells171 : Tryz.prog.cellsOf 171 = 1 := by kernel_rfl
theorem cells26 : Tryz.prog.cellsOf 26 = 1 := by kernel_rfl
theorem cells9 : Tryz.prog.cellsOf 9 = 1 := by kernel_rfl
theorem cellsT3 : Tryz.prog.cellsOf 3 = 1 := by kernel_rfl
theorem cells87 : Tryz.prog.cellsOf 87 = 5 := by kernel_rfl
theorem i64_of_wf {n : Int} (h : (Lit.int .i64 n).wf = true) : -9223372036854775808 ≤ n ∧ n ≤ 9223372036854775807 := by
  unfold Lit.wf at h
  rw [Bool.and_eq_true, decide_eq_true_iff, decide_eq_true_iff] at h
  exact h
theorem u32_of_wf {n : Int} (h : (Lit.int .u32 n).wf = true) : 0 ≤ n ∧ n < 4294967296 := by
  unfold Lit.wf at h
  rw [Bool.and_eq_true, decide_eq_true_iff, decide_eq_true_iff] at h
  have e1 : IntKind.min .u32 = 0 := rfl
  have e2 : IntKind.max .u32 = 4294967295 := rfl
  omega
theorem sum_one {α : Type} : ∀ (l : List α), (l.map fun _ => 1).sum = l.length
  | [] => rfl
  | _ :: l => by rw [List.map_cons, List.sum_cons, List.length_cons, sum_one l]; omega
section
variable {H : Type} {enc : TypeId × Value → H} {W : World}
theorem el_U (n : Nat) (cs : List Value) (y : DataW H × List MemPlace) (h : DataW.trod enc Tryz.prog W 0 (fun _ => true) true n 171 cs = some y) : ∃ z : Nat, cs.length = rU.k ∧ rU.R (PHof W) cs z ∧ 1 ≤ bulk y.1 ∧ z < 4294967296 := by
  obtain ⟨z, rfl, _, w⟩ := DataW.trod_int Tryz.underlying171 h
  have := u32_of_wf w
  exact ⟨z.toNat, rfl, show den _ (.cv (.int .u32 ((z.toNat : Nat) : Int))) _ ∧ True from ⟨by show _ = _; rw [Int.toNat_of_nonneg this.1], trivial⟩, bulk_one _, by omega⟩
theorem openU {n : Nat} {cs : List Value} {y : DataW H × List MemPlace} (h : DataW.trod enc Tryz.prog W 0 (fun _ => true) true n 30 cs = some y) : ∃ v l, cs = [v] ∧ LR rU (PHof W) v l ∧ l.length + 1 ≤ bulk y.1 ∧ Fit l := by
  obtain ⟨v, l, e, u, b, q⟩ := openLR (r := rU) (fun _ => 1) 0 (by decide) Tryz.underlying30 cells171 el_U h
  rw [sum_one] at b
  exact ⟨v, l, e, u, b, q⟩
theorem el_F_of {t : TypeId} {f0 f1 f2 : Field} (hs : Tryz.prog.underlying t = some (.struct #[f0, f1, f2])) (hone : oneCellFields Tryz.prog #[f0, f1, f2] = true) (hC : Tryz.prog.cellsOf t = 3) (t0 : f0.type = 4) (t1 : f1.type = 30) (t2 : f2.type = 30)
    {n : Nat} {cs : List Value} {y : DataW H × List MemPlace} (h : DataW.trod enc Tryz.prog W 0 (fun _ => true) true n t cs = some y) : ∃ f : Fr, cs.length = rF.k ∧ rF.R (PHof W) cs f ∧ bf f + 1 ≤ bulk y.1 ∧ FtF f := by
  obtain ⟨y0, y1, y2, m, hx, hl, g0, g1, g2⟩ := trod_struct3 hs h
  obtain ⟨o0, k0⟩ := hone_of hone 0 f0 rfl
  obtain ⟨o1, k1⟩ := hone_of hone 1 f1 rfl
  obtain ⟨o2, k2⟩ := hone_of hone 2 f2 rfl
  rw [hC] at hl
  match cs, hl with
  | [c0, c1, c2], _ =>
    rw [o0, k0, t0] at g0; rw [o1, k1, t1] at g1; rw [o2, k2, t2] at g2
    obtain ⟨s, e0, _⟩ := DataW.trod_bool Tryz.underlying4 g0
    cases e0
    obtain ⟨v1, l1, e1, u1, b1, q1⟩ := openU g1
    obtain ⟨v2, l2, e2, u2, b2, q2⟩ := openU g2
    cases e1; cases e2
    refine ⟨⟨s, l1, l2⟩, rfl, ⟨rfl, u1, u2, trivial⟩, ?_, ⟨q1, q2⟩⟩
    rw [hx]
    have b0 := bulk_one y0.1
    show _ ≤ bulk (.agg [y0.1, y1.1, y2.1])
    have := bulk_agg [y0.1, y1.1, y2.1]
    simp only [Rows.uptoBulkAll] at this
    unfold bf; dsimp only
    unfold bulk at *; omega
theorem el_F (n : Nat) (cs : List Value) (y : DataW H × List MemPlace) (h : DataW.trod enc Tryz.prog W 0 (fun _ => true) true n 32 cs = some y) : ∃ f : Fr, cs.length = rF.k ∧ rF.R (PHof W) cs f ∧ bf f + 1 ≤ bulk y.1 ∧ FtF f :=
  el_F_of Tryz.underlying32 (by kernel_rfl) cells32 rfl rfl rfl h
theorem el_I (n : Nat) (cs : List Value) (y : DataW H × List MemPlace) (h : DataW.trod enc Tryz.prog W 0 (fun _ => true) true n 3 cs = some y) : ∃ z : Int, cs.length = rI.k ∧ rI.R (PHof W) cs z ∧ 1 ≤ bulk y.1 ∧ (-9223372036854775808 ≤ z ∧ z ≤ 9223372036854775807) := by
  obtain ⟨z, rfl, _, w⟩ := DataW.trod_int Tryz.underlying3 h
  exact ⟨z, rfl, ⟨rfl, trivial⟩, bulk_one _, i64_of_wf w⟩
theorem openLI {n : Nat} {cs : List Value} {y : DataW H × List MemPlace} (h : DataW.trod enc Tryz.prog W 0 (fun _ => true) true n 26 cs = some y) : ∃ v l, cs = [v] ∧ LR rI (PHof W) v l ∧ l.length + 1 ≤ bulk y.1 ∧ ∀ z ∈ l, -9223372036854775808 ≤ z ∧ z ≤ 9223372036854775807 := by
  obtain ⟨v, l, e, u, b, q⟩ := openLR (r := rI) (fun _ => 1) 0 (by decide) Tryz.underlying26 cellsT3 el_I h
  rw [sum_one] at b
  exact ⟨v, l, e, u, b, q⟩
theorem el_E (n : Nat) (cs : List Value) (y : DataW H × List MemPlace) (h : DataW.trod enc Tryz.prog W 0 (fun _ => true) true n 87 cs = some y) : ∃ e : En, cs.length = rE.k ∧ rE.R (PHof W) cs e ∧ 1 ≤ bulk y.1 ∧ (Fit e.f.n ∧ Fit e.f.d) := by
  obtain ⟨xs, m, _, hx, hl, hlen, hg⟩ := DataW.trod_struct Tryz.underlying87 h
  rw [cells87] at hl
  match cs, hl with
  | [c0, c1, c2, c3, c4], _ =>
    have g0 := hg 0 _ rfl
    have g1 := hg 1 _ rfl
    have g2 := hg 2 _ rfl
    have h3 : xs.length = 3 := hlen
    match xs, h3 with
    | [y0, y1, y2], _ =>
      have g0 : DataW.trod enc Tryz.prog W 0 (fun _ => true) true m 9 ([c0, c1, c2, c3, c4].take (Tryz.prog.cellsOf 9)) = some y0 := g0
      have g1 : DataW.trod enc Tryz.prog W 0 (fun _ => true) true m 26 ([c1, c2, c3, c4].take (Tryz.prog.cellsOf 26)) = some y1 := g1
      have g2 : DataW.trod enc Tryz.prog W 0 (fun _ => true) true m 32 ([c2, c3, c4].take (Tryz.prog.cellsOf 32)) = some y2 := g2
      rw [cells9] at g0; rw [cells26] at g1; rw [cells32] at g2
      obtain ⟨s, e0, _, _⟩ := DataW.trod_string Tryz.underlying9 g0
      obtain ⟨v1, l1, e1, u1, b1, q1⟩ := openLI g1
      obtain ⟨f, hf1, hf2, b2, q2⟩ := el_F _ _ _ g2
      have e0 : [c0] = [Value.string s] := e0
      have e1 : [c1] = [v1] := e1
      cases e0; cases e1
      obtain ⟨a, b, c, _⟩ := (show denL (PHof W) [bv f.neg, lv rU f.n, lv rU f.d] [c2, c3, c4] from hf2)
      refine ⟨⟨s, l1, f⟩, rfl, ⟨rfl, u1, a, b, c, trivial⟩, bulk_one _, q2.h⟩
theorem openEs {n : Nat} {cs : List Value} {y : DataW H × List MemPlace} (h : DataW.trod enc Tryz.prog W 0 (fun _ => true) true n 22 cs = some y) : ∃ v l, cs = [v] ∧ LR rE (PHof W) v l ∧ l.length + 1 ≤ bulk y.1 ∧ ∀ e ∈ l, Fit e.f.n ∧ Fit e.f.d := by
  obtain ⟨v, l, e, u, b, q⟩ := openLR (r := rE) (fun _ => 1) en0 (by decide) Tryz.underlying22 cells87 el_E h
  rw [sum_one] at b
  exact ⟨v, l, e, u, b, q⟩
theorem openEntries {r : Reach} {b0 : Nat} {v : Value} {d : DataW H} {p : List MemPlace} (hv : Value.okWide Tryz.prog W r b0 22 v) (h : DataW.Trod enc Tryz.prog W 0 (fun _ => true) true 22 v d p) (hb : bulk d ≤ 1048576) : ∃ l, den (PHof W) (lv rE l) v ∧ UpE l := by
  obtain ⟨a0, len, cap, rfl⟩ := okWide_slice Tryz.underlying22 hv
  obtain ⟨fuel, hf⟩ := h
  obtain ⟨_, l, e, u, b, q⟩ := openEs hf
  cases e
  exact ⟨l, u, by dsimp only at b; omega, q⟩
end
end Go.E3
