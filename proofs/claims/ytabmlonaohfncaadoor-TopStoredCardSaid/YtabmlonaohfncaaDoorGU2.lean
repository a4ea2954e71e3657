/- GU2: a part of the proofs about what is clipped and stored: how the program's functions run, and what they compute, for every input. -/
import Derived.Test.YtabmlonaohfncaaDoorCards
import Derived.Test.YtabmlonaohfncaaDoorTie
import Derived.Deep.DeepHandedRow
import Derived.Lib.LaidTab
import Derived.Stop.LaidErr
import Derived.Test.YtabmlonaohfncaaDoorGU1
set_option linter.all false
set_option linter.unusedVariables false
namespace Go.E3
open Go.Ear
set_option maxRecDepth 100000
open Go.ChangeShapes Go.WideShapes Go.RowKit Go.Joins Go.Deep Go.ChangeAt Go.Proofs Go.Proofs.YtabmlonaohfncaaDoor
theorem laidOut : laidOutB Tryd.prog = true := by kernel_rfl
theorem ownGodebug : ownKnob Tryd.prog.godebug = none := by kernel_rfl
theorem parOk : ∀ t, t = 24 ∨ t = 27 ∨ t = 28 ∨ t = 3 ∨ t = 45 → Tryd.prog.readableRec t = true ∧ t < Tryd.prog.types.size := by
  rintro t (rfl | rfl | rfl | rfl | rfl) <;> exact ⟨by kernel_rfl, of_decide_eq_true (by kernel_rfl)⟩
theorem standIn : ∀ t, t = 24 ∨ t = 27 ∨ t = 28 ∨ t = 3 ∨ t = 45 → Tryd.prog.wantsStandIn t = false := by
  rintro t (rfl | rfl | rfl | rfl | rfl) <;> kernel_rfl
theorem noLooks : false = Tryd.pinned.checked.prog.looks [] := by kernel_rfl
theorem cellsT3 : Tryd.prog.cellsOf 3 = 1 := by kernel_rfl
theorem cells24 : Tryd.prog.cellsOf 24 = 2 := by kernel_rfl
theorem cells27 : Tryd.prog.cellsOf 27 = 10 := by kernel_rfl
theorem cells45 : Tryd.prog.cellsOf 45 = 7 := by kernel_rfl
theorem cells120 : Tryd.prog.cellsOf 120 = 65 := by kernel_rfl
theorem i64_of_wf {n : Int} (h : (Lit.int .i64 n).wf = true) : -9223372036854775808 ≤ n ∧ n ≤ 9223372036854775807 := by
  unfold Lit.wf at h
  rw [Bool.and_eq_true, decide_eq_true_iff, decide_eq_true_iff] at h
  exact h
section
variable {H : Type} {enc : TypeId × Value → H} {W : World}
theorem el_I (n : Nat) (cs : List Value) (y : DataW H × List MemPlace) (h : DataW.trod enc Tryd.prog W 0 (fun _ => true) true n 3 cs = some y) : ∃ z : Int, cs.length = rI.k ∧ rI.R (PHof W) cs z ∧ 1 ≤ bulk y.1 ∧ (-9223372036854775808 ≤ z ∧ z ≤ 9223372036854775807) := by
  obtain ⟨z, rfl, _, w⟩ := DataW.trod_int Tryd.underlying3 h
  exact ⟨z, rfl, ⟨rfl, trivial⟩, bulk_one _, i64_of_wf w⟩
theorem openLI {n : Nat} {cs : List Value} {y : DataW H × List MemPlace} (h : DataW.trod enc Tryd.prog W 0 (fun _ => true) true n 22 cs = some y) : ∃ v l, cs = [v] ∧ LR rI (PHof W) v l ∧ 1 ≤ bulk y.1 ∧ ∀ z ∈ l, -9223372036854775808 ≤ z ∧ z ≤ 9223372036854775807 := by
  obtain ⟨v, l, e, u, b, q⟩ := openLR (r := rI) (fun _ => 1) 0 (by decide) Tryd.underlying22 cellsT3 el_I h
  exact ⟨v, l, e, u, bulk_one _, q⟩
theorem open_aggN {r : Reach} {b0 : Nat} {t : TypeId} {fs : Array Field} {v : Value} {d : DataW H} {p : List MemPlace} (hs : Tryd.prog.underlying t = some (.struct fs)) (hone : oneCellFields Tryd.prog fs = true) (hC : Tryd.prog.cellsOf t = fs.size)
    (hv : Value.okWide Tryd.prog W r b0 t v) (h : DataW.Trod enc Tryd.prog W 0 (fun _ => true) true t v d p) :
    ∃ (cs : List Value) (n : Nat), v = .agg cs.toArray ∧ cs.length = fs.size ∧ ∀ (i : Nat) (f : Field), fs[i]? = some f → ∃ (c : Value) (y : DataW H × List MemPlace), cs[i]? = some c ∧ DataW.trod enc Tryd.prog W 0 (fun _ => true) true n f.type [c] = some y := by
  obtain ⟨cs, rfl, hsz⟩ := okWide_struct hs hv
  obtain ⟨fuel, hf⟩ := h
  obtain ⟨xs, n, _, _, hl, hlen, hg⟩ := DataW.trod_struct hs hf
  refine ⟨cs.toList, n, rfl, by simpa using hsz.trans hC, fun i f hi => ?_⟩
  obtain ⟨o, k⟩ := hone_of hone i f hi
  have hi' : i < fs.size := (Array.getElem?_eq_some_iff.1 hi).1
  have hic : i < cs.size := by rw [hsz, hC]; exact hi'
  obtain ⟨y, hy⟩ : ∃ y, xs[i]? = some y := ⟨_, List.getElem?_eq_getElem (by rw [hlen]; simpa using hi')⟩
  refine ⟨cs[i], y, by simp [hic], ?_⟩
  have h1 := hg i f (by simpa using hi)
  rw [o, k, hy, show (Value.agg cs).cells.toList = cs.toList from rfl] at h1
  rw [List.drop_eq_getElem_cons (by simpa using hic)] at h1
  simpa using h1
theorem openRec {r : Reach} {b0 : Nat} {v : Value} {d : DataW H} {p : List MemPlace} (hv : Value.okWide Tryd.prog W r b0 24 v) (h : DataW.Trod enc Tryd.prog W 0 (fun _ => true) true 24 v d p) : ∃ rate l, den (PHof W) (rcv rate l) v := by
  obtain ⟨cs, n, rfl, hn, hf⟩ := open_aggN Tryd.underlying24 (by kernel_rfl) cells24 hv h
  match cs, hn with
  | [c0, c1], _ =>
    obtain ⟨c, y, e, g0⟩ := hf 0 _ rfl
    cases e
    obtain ⟨z0, e0, _⟩ := DataW.trod_int Tryd.underlying3 g0
    cases e0
    obtain ⟨c, y, e, g1⟩ := hf 1 _ rfl
    cases e
    obtain ⟨v1, l, e1, u, _⟩ := openLI g1
    cases e1
    exact ⟨z0, l, [_, _], rfl, rfl, u, trivial⟩
theorem openRcp {r : Reach} {b0 : Nat} {v : Value} {d : DataW H} {p : List MemPlace} (hv : Value.okWide Tryd.prog W r b0 27 v) (h : DataW.Trod enc Tryd.prog W 0 (fun _ => true) true 27 v d p) : ∃ q : Rcp, den (PHof W) (rcpv q) v := by
  obtain ⟨cs, n, rfl, hn, hf⟩ := open_aggN Tryd.underlying27 (by kernel_rfl) cells27 hv h
  match cs, hn with
  | [c0, c1, c2, c3, c4, c5, c6, c7, c8, c9], _ =>
    obtain ⟨c, y, e, g0⟩ := hf 0 _ rfl; cases e; obtain ⟨z0, e0, _⟩ := DataW.trod_int Tryd.underlying3 g0; cases e0
    obtain ⟨c, y, e, g1⟩ := hf 1 _ rfl; cases e; obtain ⟨z1, e1, _⟩ := DataW.trod_int Tryd.underlying3 g1; cases e1
    obtain ⟨c, y, e, g2⟩ := hf 2 _ rfl; cases e; obtain ⟨z2, e2, _⟩ := DataW.trod_int Tryd.underlying3 g2; cases e2
    obtain ⟨c, y, e, g3⟩ := hf 3 _ rfl; cases e; obtain ⟨z3, e3, _⟩ := DataW.trod_int Tryd.underlying3 g3; cases e3
    obtain ⟨c, y, e, g4⟩ := hf 4 _ rfl; cases e; obtain ⟨z4, e4, _⟩ := DataW.trod_int Tryd.underlying25 g4; cases e4
    obtain ⟨c, y, e, g5⟩ := hf 5 _ rfl; cases e; obtain ⟨z5, e5, _⟩ := DataW.trod_int Tryd.underlying3 g5; cases e5
    obtain ⟨c, y, e, g6⟩ := hf 6 _ rfl; cases e; obtain ⟨v6, l6, e6, u6, _⟩ := openLI g6; cases e6
    obtain ⟨c, y, e, g7⟩ := hf 7 _ rfl; cases e; obtain ⟨z7, e7, _⟩ := DataW.trod_int Tryd.underlying3 g7; cases e7
    obtain ⟨c, y, e, g8⟩ := hf 8 _ rfl; cases e; obtain ⟨z8, e8, _⟩ := DataW.trod_bool Tryd.underlying4 g8; cases e8
    obtain ⟨c, y, e, g9⟩ := hf 9 _ rfl; cases e; obtain ⟨z9, e9, _⟩ := DataW.trod_bool Tryd.underlying4 g9; cases e9
    exact ⟨⟨z0, z1, z2, z3, z4, z5, l6, z7, z8, z9⟩, [_, _, _, _, _, _, _, _, _, _], rfl, rfl, rfl, rfl, rfl, rfl, rfl, u6, rfl, rfl, rfl, trivial⟩
end
theorem gCos : Tryd.prog.globalNamed "earshot/api.Cosines" = some 0 := by kernel_rfl
theorem gCosType : (Tryd.prog.globals[0]?).map (·.type) = some 120 := by kernel_rfl
theorem cosLaid : (Rows.laid_earshot_api_Cosines : DataW Unit) = Lib.tabData .i64 cosC := by kernel_rfl
theorem tabOf {W : World} (h : laidMet Tryd.prog [("earshot/api.Cosines", Rows.laid_earshot_api_Cosines)] W) : TabC (PHof W) := by
  rw [cosLaid] at h
  have ht := Lib.tabIs_of_head (rest := []) gCos gCosType Tryd.underlying120 Tryd.underlying3 cellsT3 cells120 h
  unfold Lib.TabIs World.var? at ht
  rw [gCos, Option.bind_some] at ht
  cases hb : W.heap[0]? with
  | none => rw [hb] at ht; cases ht
  | some o =>
    cases o with
    | cells c e fz => rw [hb] at ht; cases ht; exact ⟨e, fz, hb⟩
    | _ => rw [hb] at ht; cases ht
def litsOf {H : Type} : DataW H → List Value
  | .agg l => l.map fun x => match x with | .lit (.int k z) => .int k z | _ => .bool false
  | _ => []
def layCells (l : List Value) : Obj → Obj
  | .cells _ t fz => .cells l.toArray t fz
  | o => o
noncomputable def laidWorld (os : Os) : World :=
  { World.holding Tryd.prog os ⟨#[], #[], []⟩ with
    heap := (World.holding Tryd.prog os ⟨#[], #[], []⟩).heap.modify 0 (layCells (litsOf (Rows.laid_earshot_api_Cosines : DataW Unit))) }
theorem ownG {W : World} (h : TabC (PHof W)) : OwnB W [rG] (PHof W) W := ⟨h, fun _ hi => hi.elim, fun r' (hr : r' ∈ ([] : List Res)) => absurd hr (by simp), trivial⟩
end Go.E3
