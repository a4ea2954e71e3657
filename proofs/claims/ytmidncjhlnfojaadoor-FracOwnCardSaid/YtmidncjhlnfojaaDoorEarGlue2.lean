/- About package frac: EarGlue2. -/
import Derived.Test.YtmidncjhlnfojaaDoorEarGlue
import Derived.Stop.LaidErr
set_option linter.all false
namespace Go.Ear
set_option maxRecDepth 100000
open Go.ChangeShapes Go.RowKit Go.Joins Go.Deep Go.ChangeAt Go.Proofs Go.Proofs.YtmidncjhlnfojaaDoor
theorem laidOut : laidOutB Tryd.prog = true := by kernel_rfl
theorem ownGodebug : ownKnob Tryd.prog.godebug = none := by kernel_rfl
theorem gPow : Tryd.prog.globalNamed "internal/strconv.uint64pow10" = some 0 := by kernel_rfl
theorem gPowType : (Tryd.prog.globals[0]?).map (·.type) = some 121 := by kernel_rfl
theorem parOk : ∀ t, t = 24 ∨ t = 3 ∨ t = 9 ∨ t = 50 → Tryd.prog.readableRec t = true ∧ t < Tryd.prog.types.size := by
  rintro t (rfl | rfl | rfl | rfl) <;> exact ⟨by kernel_rfl, of_decide_eq_true (by kernel_rfl)⟩
theorem standIn : ∀ t, t = 24 ∨ t = 3 ∨ t = 9 ∨ t = 50 → Tryd.prog.wantsStandIn t = false := by
  rintro t (rfl | rfl | rfl | rfl) <;> kernel_rfl
theorem cells24 : Tryd.prog.cellsOf 24 = 3 := by kernel_rfl
theorem cells51 : Tryd.prog.cellsOf 51 = 1 := by kernel_rfl
theorem cells77 : Tryd.prog.cellsOf 77 = 1 := by kernel_rfl
theorem cells121 : Tryd.prog.cellsOf 121 = 20 := by kernel_rfl
theorem i64_of_wf {n : Int} (h : (Lit.int .i64 n).wf = true) : -9223372036854775808 ≤ n ∧ n ≤ 9223372036854775807 := by
  unfold Lit.wf at h
  rw [Bool.and_eq_true, decide_eq_true_iff, decide_eq_true_iff] at h
  exact h
theorem openFrac {H : Type} {enc : TypeId × Value → H} {r : Reach} {b0 : Nat} {v : Value} {d : DataW H} {p : List MemPlace} {W : World}
    (hv : Value.okWide Tryd.prog W r b0 24 v) (h : DataW.Trod enc Tryd.prog W 0 (fun _ => true) true 24 v d p) : ∃ f, F (PHof W) v f :=
  openF Tryd.underlying24 (by kernel_rfl) cells24 rfl rfl rfl Tryd.underlying4 Tryd.underlying22 Tryd.underlying51 cells51 hv h
theorem pow10Laid : (Rows.laid_internal_strconv_uint64pow10 : DataW Unit) = Lib.tabData .u64 Lib.pow10Tab := by kernel_rfl
theorem tabOf {W : World} {x y : String × DataW Unit} (h : laidMet Tryd.prog [x, y, ("internal/strconv.uint64pow10", Rows.laid_internal_strconv_uint64pow10)] W) : Tab (PHof W) := by
  have h3 := h.tail.tail
  rw [pow10Laid] at h3
  have ht := Lib.tabIs_of_head (rest := []) gPow gPowType Tryd.underlying121 Tryd.underlying77 cells77 cells121 h3
  unfold Lib.TabIs World.var? at ht
  rw [gPow, Option.bind_some] at ht
  cases hb : W.heap[0]? with
  | none => rw [hb] at ht; cases ht
  | some o =>
    cases o with
    | cells c e fz => rw [hb] at ht; cases ht; exact ⟨e, fz, hb⟩
    | _ => rw [hb] at ht; cases ht
theorem noLooks : false = Tryd.pinned.checked.prog.looks [] := by kernel_rfl
def litsOf {H : Type} : DataW H → List Value
  | .agg l => l.map fun x => match x with | .lit (.int k z) => .int k z | _ => .bool false
  | _ => []
def layCells (l : List Value) : Obj → Obj
  | .cells _ t fz => .cells l.toArray t fz
  | o => o
noncomputable def laidWorld (os : Os) : World :=
  { World.holding Tryd.prog os ⟨#[], #[], []⟩ with
    heap := (((World.holding Tryd.prog os ⟨#[], #[], []⟩).heap.modify 0 (layCells (litsOf (Rows.laid_internal_strconv_uint64pow10 : DataW Unit)))).modify 1 (layCells (litsOf (Rows.laid_math_bits_deBruijn32tab : DataW Unit)))).modify 2 (layCells (litsOf (Rows.laid_math_bits_deBruijn64tab : DataW Unit))) }
end Go.Ear
