/- GS3: a part of the proofs about what is clipped and stored: how the program's functions run, and what they compute, for every input. -/
import Derived.Test.YthlpenhbcmbgoaaGreatDoorGS2
set_option linter.all false
set_option linter.unusedVariables false
namespace Go.E3
open Go.Ear
set_option maxRecDepth 100000
open Go.ChangeShapes Go.WideShapes Go.RowKit Go.Joins Go.Deep Go.ChangeAt Go.Proofs Go.Proofs.YthlpenhbcmbgoaaGreatDoor
theorem cells276 : Tryz.prog.cellsOf 276 = 20 := by kernel_rfl
theorem cells137 : Tryz.prog.cellsOf 137 = 1 := by kernel_rfl
theorem gPw : Tryz.prog.globalNamed "internal/strconv.uint64pow10" = some 1 := by kernel_rfl
theorem gPwType : (Tryz.prog.globals[1]?).map (·.type) = some 276 := by kernel_rfl
theorem powLaid : (Rows.laid_internal_strconv_uint64pow10 : DataW Unit) = Lib.tabData .u64 Lib.pow10Tab := by kernel_rfl
abbrev laidL : List (String × DataW Unit) := [("math/bits.deBruijn32tab", Rows.laid_math_bits_deBruijn32tab), ("math/bits.deBruijn64tab", Rows.laid_math_bits_deBruijn64tab), ("internal/strconv.uint64pow10", Rows.laid_internal_strconv_uint64pow10)]
theorem tabOf {W : World} (h : laidMet Tryz.prog laidL W) : Tab (PHof W) := by
  have h2 := laidMet.filter (fun x => x.1 == "internal/strconv.uint64pow10") h
  have e : laidL.filter (fun x => x.1 == "internal/strconv.uint64pow10") = [("internal/strconv.uint64pow10", Lib.tabData .u64 Lib.pow10Tab)] := by
    rw [← powLaid]; rfl
  rw [e] at h2
  have ht := Lib.tabIs_of_head (rest := []) gPw gPwType Tryz.underlying276 Tryz.underlying137 cells137 cells276 h2
  unfold Lib.TabIs World.var? at ht
  rw [gPw, Option.bind_some] at ht
  cases hb : W.heap[1]? with
  | none => rw [hb] at ht; cases ht
  | some o =>
    cases o with
    | cells c e fz => rw [hb] at ht; cases ht; exact ⟨e, fz, hb⟩
    | _ => rw [hb] at ht; cases ht
def litsOf {H : Type} : DataW H → List Value
  | .agg l => l.map fun x => match x with | .lit (.int k z) => .int k z | _ => .bool false
  | _ => []
def layCells (l : List Value) : Obj → Obj
  | .cells _ t fz => .cells l.toArray t fz
  | o => o
noncomputable def laidWorld (os : Os) : World :=
  { World.holding Tryz.prog os ⟨#[], #[], []⟩ with
    heap := (((World.holding Tryz.prog os ⟨#[], #[], []⟩).heap.modify 1 (layCells (litsOf (Rows.laid_internal_strconv_uint64pow10 : DataW Unit)))).modify 2 (layCells (litsOf (Rows.laid_math_bits_deBruijn32tab : DataW Unit)))).modify 3 (layCells (litsOf (Rows.laid_math_bits_deBruijn64tab : DataW Unit))) }
theorem ownG {W : World} (h : Tab (PHof W)) : OwnB W [rG] (PHof W) W := ⟨h, fun _ hi => hi.elim, fun r' (hr : r' ∈ ([] : List Res)) => absurd hr (by simp), trivial⟩
end Go.E3
