/-
  No cell of these rows narrows 'for every input' (looked for: loops, veiled, ifaces, maps, wideKeys, modest, calm, conditions, laid).
  DERIVED. THE GIVEN ROWS OF THIS SEAT. 16 by the template 'for every input the law returns true; each argument reads behind the call as it read before'; 0 by the template 'total and deterministic' (their statements: YtpmndikbfalfoaaGreatTotals.lean).
  GIVEN WITH THE SEED: the statements are not yours to turn. If you find one false, say at which input.
  Laid BY PROGRAM, IN A SANDBOX (cutbox-rows.mjs): the forced cells as the released guide's own fill.sh prints them over the translation 585380f3631a857a… (all of the seat's roots in one cut). By AI agents, Wed Nov 11 2026. No macro, syntax, notation, axiom, sorry.
-/
import Derived.Test.YtpmndikbfalfoaaGreatChecked
import GoSem.Claim
import GoSem.ClaimJoined
import GoSem.ClaimMapViews
import Derived.JoinedTies
import Derived.KernelRfl
namespace Go.Proofs.YtpmndikbfalfoaaGreat
/- THE CELL 'sum', in the pinned program and in every row, IS THE sha256 OF THE DUMP (.gsa) THAT YtpmndikbfalfoaaGreatProg.lean LOADS. Nothing in Lean hashes anything: it is a label: what it is worth is what the hold of that sum in a sandbox is worth. -/
noncomputable def Tryz.pinned : Pinned := { name := "ytpmndikbfalfoaagreat", sum := "585380f3631a857a4515a2d28b0851d07c4a23ebed1a4f8779d73458a3f212f4", checked := Tryz.checked }
namespace Rows
def none {H : Type} : Left H := { results := [], args := [] }

/-- 'earshotlaw04.ModelBest': WHATEVER THE INPUT: true; the input reads as it did. -/
def modelBestSpec : ChangeSpec := { name := "modelBest", fn := fun _ => fun
  | [d1, d2] => { results := [.lit (.bool true)], args := [d1, d2] }
  | _ => none }
def modelBestRow : OpenClaim := { program := "ytpmndikbfalfoaagreat", sum := "585380f3631a857a4515a2d28b0851d07c4a23ebed1a4f8779d73458a3f212f4", func := "earshot/earshotlaw04.ModelBest", spec := "modelBest", unfollowed := true, recurses := true, apart := false }
def ModelBestSaid : Prop := modelBestRow.holds Tryz.pinned (OpenSpec.ofChange modelBestSpec)

/-- ITS FALSE NEIGHBOUR: 'it returns false'. Refute it at one input. -/
def modelBestWrong : ChangeSpec := { name := "modelBest", fn := fun _ => fun
  | [d1, d2] => { results := [.lit (.bool false)], args := [d1, d2] }
  | _ => none }
def ModelBestWrongFalsely : Prop := modelBestRow.holds Tryz.pinned (OpenSpec.ofChange modelBestWrong)

/-- 'earshotlaw04.ModelGreatest': WHATEVER THE INPUT: true; the input reads as it did. -/
def modelGreatestSpec : ChangeSpec := { name := "modelGreatest", fn := fun _ => fun
  | [d1, d2] => { results := [.lit (.bool true)], args := [d1, d2] }
  | _ => none }
def modelGreatestRow : OpenClaim := { program := "ytpmndikbfalfoaagreat", sum := "585380f3631a857a4515a2d28b0851d07c4a23ebed1a4f8779d73458a3f212f4", func := "earshot/earshotlaw04.ModelGreatest", spec := "modelGreatest", unfollowed := true, recurses := true, apart := false }
def ModelGreatestSaid : Prop := modelGreatestRow.holds Tryz.pinned (OpenSpec.ofChange modelGreatestSpec)

/-- ITS FALSE NEIGHBOUR: 'it returns false'. Refute it at one input. -/
def modelGreatestWrong : ChangeSpec := { name := "modelGreatest", fn := fun _ => fun
  | [d1, d2] => { results := [.lit (.bool false)], args := [d1, d2] }
  | _ => none }
def ModelGreatestWrongFalsely : Prop := modelGreatestRow.holds Tryz.pinned (OpenSpec.ofChange modelGreatestWrong)

/-- 'earshotlaw04.ModelCounts': WHATEVER THE INPUT: true; the input reads as it did. -/
def modelCountsSpec : ChangeSpec := { name := "modelCounts", fn := fun _ => fun
  | [d1, d2] => { results := [.lit (.bool true)], args := [d1, d2] }
  | _ => none }
def modelCountsRow : OpenClaim := { program := "ytpmndikbfalfoaagreat", sum := "585380f3631a857a4515a2d28b0851d07c4a23ebed1a4f8779d73458a3f212f4", func := "earshot/earshotlaw04.ModelCounts", spec := "modelCounts", unfollowed := true, recurses := true, apart := false }
def ModelCountsSaid : Prop := modelCountsRow.holds Tryz.pinned (OpenSpec.ofChange modelCountsSpec)

/-- ITS FALSE NEIGHBOUR: 'it returns false'. Refute it at one input. -/
def modelCountsWrong : ChangeSpec := { name := "modelCounts", fn := fun _ => fun
  | [d1, d2] => { results := [.lit (.bool false)], args := [d1, d2] }
  | _ => none }
def ModelCountsWrongFalsely : Prop := modelCountsRow.holds Tryz.pinned (OpenSpec.ofChange modelCountsWrong)

/-- 'earshotlaw04.ModelTotals': WHATEVER THE INPUT: true; the input reads as it did. -/
def modelTotalsSpec : ChangeSpec := { name := "modelTotals", fn := fun _ => fun
  | [d1, d2] => { results := [.lit (.bool true)], args := [d1, d2] }
  | _ => none }
def modelTotalsRow : OpenClaim := { program := "ytpmndikbfalfoaagreat", sum := "585380f3631a857a4515a2d28b0851d07c4a23ebed1a4f8779d73458a3f212f4", func := "earshot/earshotlaw04.ModelTotals", spec := "modelTotals", unfollowed := true, recurses := true, apart := false }
def ModelTotalsSaid : Prop := modelTotalsRow.holds Tryz.pinned (OpenSpec.ofChange modelTotalsSpec)

/-- ITS FALSE NEIGHBOUR: 'it returns false'. Refute it at one input. -/
def modelTotalsWrong : ChangeSpec := { name := "modelTotals", fn := fun _ => fun
  | [d1, d2] => { results := [.lit (.bool false)], args := [d1, d2] }
  | _ => none }
def ModelTotalsWrongFalsely : Prop := modelTotalsRow.holds Tryz.pinned (OpenSpec.ofChange modelTotalsWrong)

/-- 'earshotlaw04.ModelPasses': WHATEVER THE INPUT: true; the input reads as it did. -/
def modelPassesSpec : ChangeSpec := { name := "modelPasses", fn := fun _ => fun
  | [d1, d2] => { results := [.lit (.bool true)], args := [d1, d2] }
  | _ => none }
def modelPassesRow : OpenClaim := { program := "ytpmndikbfalfoaagreat", sum := "585380f3631a857a4515a2d28b0851d07c4a23ebed1a4f8779d73458a3f212f4", func := "earshot/earshotlaw04.ModelPasses", spec := "modelPasses", unfollowed := true, recurses := true, apart := false }
def ModelPassesSaid : Prop := modelPassesRow.holds Tryz.pinned (OpenSpec.ofChange modelPassesSpec)

/-- ITS FALSE NEIGHBOUR: 'it returns false'. Refute it at one input. -/
def modelPassesWrong : ChangeSpec := { name := "modelPasses", fn := fun _ => fun
  | [d1, d2] => { results := [.lit (.bool false)], args := [d1, d2] }
  | _ => none }
def ModelPassesWrongFalsely : Prop := modelPassesRow.holds Tryz.pinned (OpenSpec.ofChange modelPassesWrong)

/-- 'earshotlaw04.ModelSums': WHATEVER THE INPUT: true; the input reads as it did. -/
def modelSumsSpec : ChangeSpec := { name := "modelSums", fn := fun _ => fun
  | [d1, d2] => { results := [.lit (.bool true)], args := [d1, d2] }
  | _ => none }
def modelSumsRow : OpenClaim := { program := "ytpmndikbfalfoaagreat", sum := "585380f3631a857a4515a2d28b0851d07c4a23ebed1a4f8779d73458a3f212f4", func := "earshot/earshotlaw04.ModelSums", spec := "modelSums", unfollowed := true, recurses := true, apart := false }
def ModelSumsSaid : Prop := modelSumsRow.holds Tryz.pinned (OpenSpec.ofChange modelSumsSpec)

/-- ITS FALSE NEIGHBOUR: 'it returns false'. Refute it at one input. -/
def modelSumsWrong : ChangeSpec := { name := "modelSums", fn := fun _ => fun
  | [d1, d2] => { results := [.lit (.bool false)], args := [d1, d2] }
  | _ => none }
def ModelSumsWrongFalsely : Prop := modelSumsRow.holds Tryz.pinned (OpenSpec.ofChange modelSumsWrong)

/-- 'earshotlaw04.ModelChecks': WHATEVER THE INPUT: true; the input reads as it did. -/
def modelChecksSpec : ChangeSpec := { name := "modelChecks", fn := fun _ => fun
  | [d1, d2] => { results := [.lit (.bool true)], args := [d1, d2] }
  | _ => none }
def modelChecksRow : OpenClaim := { program := "ytpmndikbfalfoaagreat", sum := "585380f3631a857a4515a2d28b0851d07c4a23ebed1a4f8779d73458a3f212f4", func := "earshot/earshotlaw04.ModelChecks", spec := "modelChecks", unfollowed := true, recurses := true, apart := false }
def ModelChecksSaid : Prop := modelChecksRow.holds Tryz.pinned (OpenSpec.ofChange modelChecksSpec)

/-- ITS FALSE NEIGHBOUR: 'it returns false'. Refute it at one input. -/
def modelChecksWrong : ChangeSpec := { name := "modelChecks", fn := fun _ => fun
  | [d1, d2] => { results := [.lit (.bool false)], args := [d1, d2] }
  | _ => none }
def ModelChecksWrongFalsely : Prop := modelChecksRow.holds Tryz.pinned (OpenSpec.ofChange modelChecksWrong)

/-- 'earshotlaw04.ModelPosteriors': WHATEVER THE INPUT: true; the input reads as it did. -/
def modelPosteriorsSpec : ChangeSpec := { name := "modelPosteriors", fn := fun _ => fun
  | [d1, d2] => { results := [.lit (.bool true)], args := [d1, d2] }
  | _ => none }
def modelPosteriorsRow : OpenClaim := { program := "ytpmndikbfalfoaagreat", sum := "585380f3631a857a4515a2d28b0851d07c4a23ebed1a4f8779d73458a3f212f4", func := "earshot/earshotlaw04.ModelPosteriors", spec := "modelPosteriors", unfollowed := true, recurses := true, apart := false }
def ModelPosteriorsSaid : Prop := modelPosteriorsRow.holds Tryz.pinned (OpenSpec.ofChange modelPosteriorsSpec)

/-- ITS FALSE NEIGHBOUR: 'it returns false'. Refute it at one input. -/
def modelPosteriorsWrong : ChangeSpec := { name := "modelPosteriors", fn := fun _ => fun
  | [d1, d2] => { results := [.lit (.bool false)], args := [d1, d2] }
  | _ => none }
def ModelPosteriorsWrongFalsely : Prop := modelPosteriorsRow.holds Tryz.pinned (OpenSpec.ofChange modelPosteriorsWrong)

/-- 'earshotlaw04.ModelJoins': WHATEVER THE INPUT: true; the input reads as it did. -/
def modelJoinsSpec : ChangeSpec := { name := "modelJoins", fn := fun _ => fun
  | [d1, d2, d3, d4] => { results := [.lit (.bool true)], args := [d1, d2, d3, d4] }
  | _ => none }
def modelJoinsRow : OpenClaim := { program := "ytpmndikbfalfoaagreat", sum := "585380f3631a857a4515a2d28b0851d07c4a23ebed1a4f8779d73458a3f212f4", func := "earshot/earshotlaw04.ModelJoins", spec := "modelJoins", unfollowed := true, recurses := true, apart := false }
def ModelJoinsSaid : Prop := modelJoinsRow.holds Tryz.pinned (OpenSpec.ofChange modelJoinsSpec)

/-- ITS FALSE NEIGHBOUR: 'it returns false'. Refute it at one input. -/
def modelJoinsWrong : ChangeSpec := { name := "modelJoins", fn := fun _ => fun
  | [d1, d2, d3, d4] => { results := [.lit (.bool false)], args := [d1, d2, d3, d4] }
  | _ => none }
def ModelJoinsWrongFalsely : Prop := modelJoinsRow.holds Tryz.pinned (OpenSpec.ofChange modelJoinsWrong)

/-- 'earshotlaw04.ModelBuilds': WHATEVER THE INPUT: true; the input reads as it did. -/
def modelBuildsSpec : ChangeSpec := { name := "modelBuilds", fn := fun _ => fun
  | [d1, d2, d3, d4] => { results := [.lit (.bool true)], args := [d1, d2, d3, d4] }
  | _ => none }
def modelBuildsRow : OpenClaim := { program := "ytpmndikbfalfoaagreat", sum := "585380f3631a857a4515a2d28b0851d07c4a23ebed1a4f8779d73458a3f212f4", func := "earshot/earshotlaw04.ModelBuilds", spec := "modelBuilds", unfollowed := true, recurses := true, apart := false }
def ModelBuildsSaid : Prop := modelBuildsRow.holds Tryz.pinned (OpenSpec.ofChange modelBuildsSpec)

/-- ITS FALSE NEIGHBOUR: 'it returns false'. Refute it at one input. -/
def modelBuildsWrong : ChangeSpec := { name := "modelBuilds", fn := fun _ => fun
  | [d1, d2, d3, d4] => { results := [.lit (.bool false)], args := [d1, d2, d3, d4] }
  | _ => none }
def ModelBuildsWrongFalsely : Prop := modelBuildsRow.holds Tryz.pinned (OpenSpec.ofChange modelBuildsWrong)

/-- 'earshotlaw04.ModelWeighs': WHATEVER THE INPUT: true; the input reads as it did. -/
def modelWeighsSpec : ChangeSpec := { name := "modelWeighs", fn := fun _ => fun
  | [d1, d2, d3] => { results := [.lit (.bool true)], args := [d1, d2, d3] }
  | _ => none }
def modelWeighsRow : OpenClaim := { program := "ytpmndikbfalfoaagreat", sum := "585380f3631a857a4515a2d28b0851d07c4a23ebed1a4f8779d73458a3f212f4", func := "earshot/earshotlaw04.ModelWeighs", spec := "modelWeighs", unfollowed := true, recurses := true, apart := false }
def ModelWeighsSaid : Prop := modelWeighsRow.holds Tryz.pinned (OpenSpec.ofChange modelWeighsSpec)

/-- ITS FALSE NEIGHBOUR: 'it returns false'. Refute it at one input. -/
def modelWeighsWrong : ChangeSpec := { name := "modelWeighs", fn := fun _ => fun
  | [d1, d2, d3] => { results := [.lit (.bool false)], args := [d1, d2, d3] }
  | _ => none }
def ModelWeighsWrongFalsely : Prop := modelWeighsRow.holds Tryz.pinned (OpenSpec.ofChange modelWeighsWrong)

/-- 'earshotlaw04.ModelTrains': WHATEVER THE INPUT: true; the input reads as it did. -/
def modelTrainsSpec : ChangeSpec := { name := "modelTrains", fn := fun _ => fun
  | [d1, d2, d3, d4] => { results := [.lit (.bool true)], args := [d1, d2, d3, d4] }
  | _ => none }
def modelTrainsRow : OpenClaim := { program := "ytpmndikbfalfoaagreat", sum := "585380f3631a857a4515a2d28b0851d07c4a23ebed1a4f8779d73458a3f212f4", func := "earshot/earshotlaw04.ModelTrains", spec := "modelTrains", unfollowed := true, recurses := true, apart := false }
def ModelTrainsSaid : Prop := modelTrainsRow.holds Tryz.pinned (OpenSpec.ofChange modelTrainsSpec)

/-- ITS FALSE NEIGHBOUR: 'it returns false'. Refute it at one input. -/
def modelTrainsWrong : ChangeSpec := { name := "modelTrains", fn := fun _ => fun
  | [d1, d2, d3, d4] => { results := [.lit (.bool false)], args := [d1, d2, d3, d4] }
  | _ => none }
def ModelTrainsWrongFalsely : Prop := modelTrainsRow.holds Tryz.pinned (OpenSpec.ofChange modelTrainsWrong)

/-- 'earshotlaw04.ModelReestimates': WHATEVER THE INPUT: true; the input reads as it did. -/
def modelReestimatesSpec : ChangeSpec := { name := "modelReestimates", fn := fun _ => fun
  | [d1, d2, d3] => { results := [.lit (.bool true)], args := [d1, d2, d3] }
  | _ => none }
def modelReestimatesRow : OpenClaim := { program := "ytpmndikbfalfoaagreat", sum := "585380f3631a857a4515a2d28b0851d07c4a23ebed1a4f8779d73458a3f212f4", func := "earshot/earshotlaw04.ModelReestimates", spec := "modelReestimates", unfollowed := true, recurses := true, apart := false }
def ModelReestimatesSaid : Prop := modelReestimatesRow.holds Tryz.pinned (OpenSpec.ofChange modelReestimatesSpec)

/-- ITS FALSE NEIGHBOUR: 'it returns false'. Refute it at one input. -/
def modelReestimatesWrong : ChangeSpec := { name := "modelReestimates", fn := fun _ => fun
  | [d1, d2, d3] => { results := [.lit (.bool false)], args := [d1, d2, d3] }
  | _ => none }
def ModelReestimatesWrongFalsely : Prop := modelReestimatesRow.holds Tryz.pinned (OpenSpec.ofChange modelReestimatesWrong)

/-- 'earshotlaw04.ModelImproves': WHATEVER THE INPUT: true; the input reads as it did. -/
def modelImprovesSpec : ChangeSpec := { name := "modelImproves", fn := fun _ => fun
  | [d1, d2] => { results := [.lit (.bool true)], args := [d1, d2] }
  | _ => none }
def modelImprovesRow : OpenClaim := { program := "ytpmndikbfalfoaagreat", sum := "585380f3631a857a4515a2d28b0851d07c4a23ebed1a4f8779d73458a3f212f4", func := "earshot/earshotlaw04.ModelImproves", spec := "modelImproves", unfollowed := true, recurses := true, apart := false }
def ModelImprovesSaid : Prop := modelImprovesRow.holds Tryz.pinned (OpenSpec.ofChange modelImprovesSpec)

/-- ITS FALSE NEIGHBOUR: 'it returns false'. Refute it at one input. -/
def modelImprovesWrong : ChangeSpec := { name := "modelImproves", fn := fun _ => fun
  | [d1, d2] => { results := [.lit (.bool false)], args := [d1, d2] }
  | _ => none }
def ModelImprovesWrongFalsely : Prop := modelImprovesRow.holds Tryz.pinned (OpenSpec.ofChange modelImprovesWrong)

/-- 'earshotlaw04.ModelFew': WHATEVER THE INPUT: true; the input reads as it did. -/
def modelFewSpec : ChangeSpec := { name := "modelFew", fn := fun _ => fun
  | [d1, d2, d3] => { results := [.lit (.bool true)], args := [d1, d2, d3] }
  | _ => none }
def modelFewRow : OpenClaim := { program := "ytpmndikbfalfoaagreat", sum := "585380f3631a857a4515a2d28b0851d07c4a23ebed1a4f8779d73458a3f212f4", func := "earshot/earshotlaw04.ModelFew", spec := "modelFew", unfollowed := true, recurses := true, apart := false }
def ModelFewSaid : Prop := modelFewRow.holds Tryz.pinned (OpenSpec.ofChange modelFewSpec)

/-- ITS FALSE NEIGHBOUR: 'it returns false'. Refute it at one input. -/
def modelFewWrong : ChangeSpec := { name := "modelFew", fn := fun _ => fun
  | [d1, d2, d3] => { results := [.lit (.bool false)], args := [d1, d2, d3] }
  | _ => none }
def ModelFewWrongFalsely : Prop := modelFewRow.holds Tryz.pinned (OpenSpec.ofChange modelFewWrong)

/-- 'earshotlaw04.ModelErrors': WHATEVER THE INPUT: true; the input reads as it did. -/
def modelErrorsSpec : ChangeSpec := { name := "modelErrors", fn := fun _ => fun
  | [d1, d2] => { results := [.lit (.bool true)], args := [d1, d2] }
  | _ => none }
def modelErrorsRow : OpenClaim := { program := "ytpmndikbfalfoaagreat", sum := "585380f3631a857a4515a2d28b0851d07c4a23ebed1a4f8779d73458a3f212f4", func := "earshot/earshotlaw04.ModelErrors", spec := "modelErrors", unfollowed := true, recurses := true, apart := false }
def ModelErrorsSaid : Prop := modelErrorsRow.holds Tryz.pinned (OpenSpec.ofChange modelErrorsSpec)

/-- ITS FALSE NEIGHBOUR: 'it returns false'. Refute it at one input. -/
def modelErrorsWrong : ChangeSpec := { name := "modelErrors", fn := fun _ => fun
  | [d1, d2] => { results := [.lit (.bool false)], args := [d1, d2] }
  | _ => none }
def ModelErrorsWrongFalsely : Prop := modelErrorsRow.holds Tryz.pinned (OpenSpec.ofChange modelErrorsWrong)

/- THE SECOND FORM. 'bulk': how many values and letters a reading holds, each counted each time it is reached (what is shared counts as often as it is met; a slice's spare places count too). A statement '..UptoSaid' is the law's where the arguments, and the package variables that the reading takes, are together of bulk at most 1048576: NARROWER than '..Said'. Prove '..Said' where nothing that the law and all that it calls make is longer than what came in: it says more and counts as full. Else prove '..UptoSaid'. A law counts once. -/
mutual
def uptoBulk {H : Type} : DataW H → Nat
  | .lit (.string bytes) => bytes.length + 1
  | .lit _ => 1
  | .nil => 1
  | .ptr d => uptoBulk d + 1
  | .slice elems spare => uptoBulkAll elems + uptoBulkAll spare + 1
  | .agg parts => uptoBulkAll parts + 1
  | .iface _ d => uptoBulk d + 1
  | .map entries => uptoBulkEntries entries + 1
  | .held _ => 1
def uptoBulkAll {H : Type} : List (DataW H) → Nat
  | [] => 0
  | d :: r => uptoBulk d + uptoBulkAll r
def uptoBulkEntries {H : Type} : List (Lit × DataW H) → Nat
  | [] => 0
  | x :: r => uptoBulkEntry x + uptoBulkEntries r
def uptoBulkEntry {H : Type} : Lit × DataW H → Nat
  | (.string bytes, d) => bytes.length + uptoBulk d + 1
  | (_, d) => uptoBulk d + 1
 end
def uptoSmall : (H : Type) → List (DataW H) → Bool := fun _ ds => decide (uptoBulkAll ds ≤ 1048576)
def OpenSpec.upto (s : _root_.Go.ChangeSpec) : _root_.Go.OpenSpec := { _root_.Go.OpenSpec.ofChange s with cond := some uptoSmall }

/-- 'earshotlaw04.ModelBest', WHERE WHAT IT READS IS OF BULK AT MOST 1048576: true; the input reads as it did. -/
def modelBestUptoRow : OpenClaim := { program := "ytpmndikbfalfoaagreat", sum := "585380f3631a857a4515a2d28b0851d07c4a23ebed1a4f8779d73458a3f212f4", func := "earshot/earshotlaw04.ModelBest", spec := "modelBest", unfollowed := true, recurses := true, apart := false, narrowed := true }
def ModelBestUptoSaid : Prop := modelBestUptoRow.holds Tryz.pinned (OpenSpec.upto modelBestSpec)

/-- 'earshotlaw04.ModelGreatest', WHERE WHAT IT READS IS OF BULK AT MOST 1048576: true; the input reads as it did. -/
def modelGreatestUptoRow : OpenClaim := { program := "ytpmndikbfalfoaagreat", sum := "585380f3631a857a4515a2d28b0851d07c4a23ebed1a4f8779d73458a3f212f4", func := "earshot/earshotlaw04.ModelGreatest", spec := "modelGreatest", unfollowed := true, recurses := true, apart := false, narrowed := true }
def ModelGreatestUptoSaid : Prop := modelGreatestUptoRow.holds Tryz.pinned (OpenSpec.upto modelGreatestSpec)

/-- 'earshotlaw04.ModelCounts', WHERE WHAT IT READS IS OF BULK AT MOST 1048576: true; the input reads as it did. -/
def modelCountsUptoRow : OpenClaim := { program := "ytpmndikbfalfoaagreat", sum := "585380f3631a857a4515a2d28b0851d07c4a23ebed1a4f8779d73458a3f212f4", func := "earshot/earshotlaw04.ModelCounts", spec := "modelCounts", unfollowed := true, recurses := true, apart := false, narrowed := true }
def ModelCountsUptoSaid : Prop := modelCountsUptoRow.holds Tryz.pinned (OpenSpec.upto modelCountsSpec)

/-- 'earshotlaw04.ModelTotals', WHERE WHAT IT READS IS OF BULK AT MOST 1048576: true; the input reads as it did. -/
def modelTotalsUptoRow : OpenClaim := { program := "ytpmndikbfalfoaagreat", sum := "585380f3631a857a4515a2d28b0851d07c4a23ebed1a4f8779d73458a3f212f4", func := "earshot/earshotlaw04.ModelTotals", spec := "modelTotals", unfollowed := true, recurses := true, apart := false, narrowed := true }
def ModelTotalsUptoSaid : Prop := modelTotalsUptoRow.holds Tryz.pinned (OpenSpec.upto modelTotalsSpec)

/-- 'earshotlaw04.ModelPasses', WHERE WHAT IT READS IS OF BULK AT MOST 1048576: true; the input reads as it did. -/
def modelPassesUptoRow : OpenClaim := { program := "ytpmndikbfalfoaagreat", sum := "585380f3631a857a4515a2d28b0851d07c4a23ebed1a4f8779d73458a3f212f4", func := "earshot/earshotlaw04.ModelPasses", spec := "modelPasses", unfollowed := true, recurses := true, apart := false, narrowed := true }
def ModelPassesUptoSaid : Prop := modelPassesUptoRow.holds Tryz.pinned (OpenSpec.upto modelPassesSpec)

/-- 'earshotlaw04.ModelSums', WHERE WHAT IT READS IS OF BULK AT MOST 1048576: true; the input reads as it did. -/
def modelSumsUptoRow : OpenClaim := { program := "ytpmndikbfalfoaagreat", sum := "585380f3631a857a4515a2d28b0851d07c4a23ebed1a4f8779d73458a3f212f4", func := "earshot/earshotlaw04.ModelSums", spec := "modelSums", unfollowed := true, recurses := true, apart := false, narrowed := true }
def ModelSumsUptoSaid : Prop := modelSumsUptoRow.holds Tryz.pinned (OpenSpec.upto modelSumsSpec)

/-- 'earshotlaw04.ModelChecks', WHERE WHAT IT READS IS OF BULK AT MOST 1048576: true; the input reads as it did. -/
def modelChecksUptoRow : OpenClaim := { program := "ytpmndikbfalfoaagreat", sum := "585380f3631a857a4515a2d28b0851d07c4a23ebed1a4f8779d73458a3f212f4", func := "earshot/earshotlaw04.ModelChecks", spec := "modelChecks", unfollowed := true, recurses := true, apart := false, narrowed := true }
def ModelChecksUptoSaid : Prop := modelChecksUptoRow.holds Tryz.pinned (OpenSpec.upto modelChecksSpec)

/-- 'earshotlaw04.ModelPosteriors', WHERE WHAT IT READS IS OF BULK AT MOST 1048576: true; the input reads as it did. -/
def modelPosteriorsUptoRow : OpenClaim := { program := "ytpmndikbfalfoaagreat", sum := "585380f3631a857a4515a2d28b0851d07c4a23ebed1a4f8779d73458a3f212f4", func := "earshot/earshotlaw04.ModelPosteriors", spec := "modelPosteriors", unfollowed := true, recurses := true, apart := false, narrowed := true }
def ModelPosteriorsUptoSaid : Prop := modelPosteriorsUptoRow.holds Tryz.pinned (OpenSpec.upto modelPosteriorsSpec)

/-- 'earshotlaw04.ModelJoins', WHERE WHAT IT READS IS OF BULK AT MOST 1048576: true; the input reads as it did. -/
def modelJoinsUptoRow : OpenClaim := { program := "ytpmndikbfalfoaagreat", sum := "585380f3631a857a4515a2d28b0851d07c4a23ebed1a4f8779d73458a3f212f4", func := "earshot/earshotlaw04.ModelJoins", spec := "modelJoins", unfollowed := true, recurses := true, apart := false, narrowed := true }
def ModelJoinsUptoSaid : Prop := modelJoinsUptoRow.holds Tryz.pinned (OpenSpec.upto modelJoinsSpec)

/-- 'earshotlaw04.ModelBuilds', WHERE WHAT IT READS IS OF BULK AT MOST 1048576: true; the input reads as it did. -/
def modelBuildsUptoRow : OpenClaim := { program := "ytpmndikbfalfoaagreat", sum := "585380f3631a857a4515a2d28b0851d07c4a23ebed1a4f8779d73458a3f212f4", func := "earshot/earshotlaw04.ModelBuilds", spec := "modelBuilds", unfollowed := true, recurses := true, apart := false, narrowed := true }
def ModelBuildsUptoSaid : Prop := modelBuildsUptoRow.holds Tryz.pinned (OpenSpec.upto modelBuildsSpec)

/-- 'earshotlaw04.ModelWeighs', WHERE WHAT IT READS IS OF BULK AT MOST 1048576: true; the input reads as it did. -/
def modelWeighsUptoRow : OpenClaim := { program := "ytpmndikbfalfoaagreat", sum := "585380f3631a857a4515a2d28b0851d07c4a23ebed1a4f8779d73458a3f212f4", func := "earshot/earshotlaw04.ModelWeighs", spec := "modelWeighs", unfollowed := true, recurses := true, apart := false, narrowed := true }
def ModelWeighsUptoSaid : Prop := modelWeighsUptoRow.holds Tryz.pinned (OpenSpec.upto modelWeighsSpec)

/-- 'earshotlaw04.ModelTrains', WHERE WHAT IT READS IS OF BULK AT MOST 1048576: true; the input reads as it did. -/
def modelTrainsUptoRow : OpenClaim := { program := "ytpmndikbfalfoaagreat", sum := "585380f3631a857a4515a2d28b0851d07c4a23ebed1a4f8779d73458a3f212f4", func := "earshot/earshotlaw04.ModelTrains", spec := "modelTrains", unfollowed := true, recurses := true, apart := false, narrowed := true }
def ModelTrainsUptoSaid : Prop := modelTrainsUptoRow.holds Tryz.pinned (OpenSpec.upto modelTrainsSpec)

/-- 'earshotlaw04.ModelReestimates', WHERE WHAT IT READS IS OF BULK AT MOST 1048576: true; the input reads as it did. -/
def modelReestimatesUptoRow : OpenClaim := { program := "ytpmndikbfalfoaagreat", sum := "585380f3631a857a4515a2d28b0851d07c4a23ebed1a4f8779d73458a3f212f4", func := "earshot/earshotlaw04.ModelReestimates", spec := "modelReestimates", unfollowed := true, recurses := true, apart := false, narrowed := true }
def ModelReestimatesUptoSaid : Prop := modelReestimatesUptoRow.holds Tryz.pinned (OpenSpec.upto modelReestimatesSpec)

/-- 'earshotlaw04.ModelImproves', WHERE WHAT IT READS IS OF BULK AT MOST 1048576: true; the input reads as it did. -/
def modelImprovesUptoRow : OpenClaim := { program := "ytpmndikbfalfoaagreat", sum := "585380f3631a857a4515a2d28b0851d07c4a23ebed1a4f8779d73458a3f212f4", func := "earshot/earshotlaw04.ModelImproves", spec := "modelImproves", unfollowed := true, recurses := true, apart := false, narrowed := true }
def ModelImprovesUptoSaid : Prop := modelImprovesUptoRow.holds Tryz.pinned (OpenSpec.upto modelImprovesSpec)

/-- 'earshotlaw04.ModelFew', WHERE WHAT IT READS IS OF BULK AT MOST 1048576: true; the input reads as it did. -/
def modelFewUptoRow : OpenClaim := { program := "ytpmndikbfalfoaagreat", sum := "585380f3631a857a4515a2d28b0851d07c4a23ebed1a4f8779d73458a3f212f4", func := "earshot/earshotlaw04.ModelFew", spec := "modelFew", unfollowed := true, recurses := true, apart := false, narrowed := true }
def ModelFewUptoSaid : Prop := modelFewUptoRow.holds Tryz.pinned (OpenSpec.upto modelFewSpec)

/-- 'earshotlaw04.ModelErrors', WHERE WHAT IT READS IS OF BULK AT MOST 1048576: true; the input reads as it did. -/
def modelErrorsUptoRow : OpenClaim := { program := "ytpmndikbfalfoaagreat", sum := "585380f3631a857a4515a2d28b0851d07c4a23ebed1a4f8779d73458a3f212f4", func := "earshot/earshotlaw04.ModelErrors", spec := "modelErrors", unfollowed := true, recurses := true, apart := false, narrowed := true }
def ModelErrorsUptoSaid : Prop := modelErrorsUptoRow.holds Tryz.pinned (OpenSpec.upto modelErrorsSpec)

end Rows
end Go.Proofs.YtpmndikbfalfoaaGreat
