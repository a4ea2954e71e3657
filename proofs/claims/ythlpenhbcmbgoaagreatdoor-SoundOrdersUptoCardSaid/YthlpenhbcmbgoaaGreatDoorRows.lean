/-
  NARROWER THAN 'FOR EVERY INPUT', by the rows' own cells (each row's printed sentence says how): SoundJoins: laid · SoundReturns: laid · SoundSums: laid · SoundPrecise: laid · SoundLexicons: laid · SoundVariants: laid · SoundHomophones: laid · SoundTrees: laid · SoundWalks: laid · SoundMakes: laid · SoundOrders: laid.
  DERIVED. THE GIVEN ROWS OF THIS SEAT. 11 by the template 'for every input the law returns true; each argument reads behind the call as it read before'; 0 by the template 'total and deterministic' (their statements: YthlpenhbcmbgoaaGreatDoorTotals.lean).
  GIVEN WITH THE SEED: the statements are not yours to turn. If you find one false, say at which input.
  Laid BY PROGRAM, IN A SANDBOX (cutbox-rows.mjs): the forced cells as the released guide's own fill.sh prints them over the translation f86267ae6438b1d3… (all of the seat's roots in one cut). By AI agents, Wed Nov 11 2026. No macro, syntax, notation, axiom, sorry.
-/
import Derived.Test.YthlpenhbcmbgoaaGreatDoorChecked
import GoSem.Claim
import GoSem.ClaimJoined
import GoSem.ClaimMapViews
import Derived.JoinedTies
import Derived.KernelRfl
namespace Go.Proofs.YthlpenhbcmbgoaaGreatDoor
/- THE CELL 'sum', in the pinned program and in every row, IS THE sha256 OF THE DUMP (.gsa) THAT YthlpenhbcmbgoaaGreatDoorProg.lean LOADS. Nothing in Lean hashes anything: it is a label: what it is worth is what the hold of that sum in a sandbox is worth. -/
noncomputable def Tryz.pinned : Pinned := { name := "ythlpenhbcmbgoaagreatdoor", sum := "f86267ae6438b1d38cbb370cd62e543f6f8c41c52f359cb88f13eb2744e0329a", checked := Tryz.checked }
namespace Rows
def none {H : Type} : Left H := { results := [], args := [] }

/- WHAT THE LISTED PACKAGE-LEVEL VARIABLES READ AS WHEN THE CALL BEGINS. Each datum BY PROGRAM (the guide's laid-datum.mjs) off the statement by which the dump's own 'gosem.cut.vars' lays the variable. In a bare row this is a premise. The card (YthlpenhbcmbgoaaGreatDoorCards.lean) ties it to the program's text. -/
def laid_math_bits_deBruijn32tab {H : Type} : DataW H := .agg [.lit (.int .u8 0), .lit (.int .u8 1), .lit (.int .u8 28), .lit (.int .u8 2), .lit (.int .u8 29), .lit (.int .u8 14), .lit (.int .u8 24), .lit (.int .u8 3), .lit (.int .u8 30), .lit (.int .u8 22), .lit (.int .u8 20), .lit (.int .u8 15), .lit (.int .u8 25), .lit (.int .u8 17), .lit (.int .u8 4), .lit (.int .u8 8), .lit (.int .u8 31), .lit (.int .u8 27), .lit (.int .u8 13), .lit (.int .u8 23), .lit (.int .u8 21), .lit (.int .u8 19), .lit (.int .u8 16), .lit (.int .u8 7), .lit (.int .u8 26), .lit (.int .u8 12), .lit (.int .u8 18), .lit (.int .u8 6), .lit (.int .u8 11), .lit (.int .u8 5), .lit (.int .u8 10), .lit (.int .u8 9)]
def laid_math_bits_deBruijn64tab {H : Type} : DataW H := .agg [.lit (.int .u8 0), .lit (.int .u8 1), .lit (.int .u8 56), .lit (.int .u8 2), .lit (.int .u8 57), .lit (.int .u8 49), .lit (.int .u8 28), .lit (.int .u8 3), .lit (.int .u8 61), .lit (.int .u8 58), .lit (.int .u8 42), .lit (.int .u8 50), .lit (.int .u8 38), .lit (.int .u8 29), .lit (.int .u8 17), .lit (.int .u8 4), .lit (.int .u8 62), .lit (.int .u8 47), .lit (.int .u8 59), .lit (.int .u8 36), .lit (.int .u8 45), .lit (.int .u8 43), .lit (.int .u8 51), .lit (.int .u8 22), .lit (.int .u8 53), .lit (.int .u8 39), .lit (.int .u8 33), .lit (.int .u8 30), .lit (.int .u8 24), .lit (.int .u8 18), .lit (.int .u8 12), .lit (.int .u8 5), .lit (.int .u8 63), .lit (.int .u8 55), .lit (.int .u8 48), .lit (.int .u8 27), .lit (.int .u8 60), .lit (.int .u8 41), .lit (.int .u8 37), .lit (.int .u8 16), .lit (.int .u8 46), .lit (.int .u8 35), .lit (.int .u8 44), .lit (.int .u8 21), .lit (.int .u8 52), .lit (.int .u8 32), .lit (.int .u8 23), .lit (.int .u8 11), .lit (.int .u8 54), .lit (.int .u8 26), .lit (.int .u8 40), .lit (.int .u8 15), .lit (.int .u8 34), .lit (.int .u8 20), .lit (.int .u8 31), .lit (.int .u8 10), .lit (.int .u8 25), .lit (.int .u8 14), .lit (.int .u8 19), .lit (.int .u8 9), .lit (.int .u8 13), .lit (.int .u8 8), .lit (.int .u8 7), .lit (.int .u8 6)]
def laid_internal_strconv_uint64pow10 {H : Type} : DataW H := .agg [.lit (.int .u64 1), .lit (.int .u64 10), .lit (.int .u64 100), .lit (.int .u64 1000), .lit (.int .u64 10000), .lit (.int .u64 100000), .lit (.int .u64 1000000), .lit (.int .u64 10000000), .lit (.int .u64 100000000), .lit (.int .u64 1000000000), .lit (.int .u64 10000000000), .lit (.int .u64 100000000000), .lit (.int .u64 1000000000000), .lit (.int .u64 10000000000000), .lit (.int .u64 100000000000000), .lit (.int .u64 1000000000000000), .lit (.int .u64 10000000000000000), .lit (.int .u64 100000000000000000), .lit (.int .u64 1000000000000000000), .lit (.int .u64 10000000000000000000)]

/-- 'earshotlaw05.SoundJoins': WHATEVER THE INPUT: true; the input reads as it did. -/
def soundJoinsSpec : ChangeSpec := { name := "soundJoins", fn := fun _ => fun
  | [d1, d2, d3, d4] => { results := [.lit (.bool true)], args := [d1, d2, d3, d4] }
  | _ => none }
def soundJoinsRow : OpenClaim := { program := "ythlpenhbcmbgoaagreatdoor", sum := "f86267ae6438b1d38cbb370cd62e543f6f8c41c52f359cb88f13eb2744e0329a", func := "earshot/earshotlaw05.SoundJoins", spec := "soundJoins", inPlace := ["internal/bytealg.abigen_runtime_cmpstring", "internal/abi.NoEscape"], unfollowed := true, recurses := true, named := ["internal/strconv.uint64pow10", "math/bits.deBruijn32tab", "math/bits.deBruijn64tab"], apart := false, laid := [("math/bits.deBruijn32tab", laid_math_bits_deBruijn32tab), ("math/bits.deBruijn64tab", laid_math_bits_deBruijn64tab), ("internal/strconv.uint64pow10", laid_internal_strconv_uint64pow10)] }
def SoundJoinsSaid : Prop := soundJoinsRow.holds Tryz.pinned (OpenSpec.ofChange soundJoinsSpec)

/-- ITS FALSE NEIGHBOUR: 'it returns false'. Refute it at one input. -/
def soundJoinsWrong : ChangeSpec := { name := "soundJoins", fn := fun _ => fun
  | [d1, d2, d3, d4] => { results := [.lit (.bool false)], args := [d1, d2, d3, d4] }
  | _ => none }
def SoundJoinsWrongFalsely : Prop := soundJoinsRow.holds Tryz.pinned (OpenSpec.ofChange soundJoinsWrong)

/-- 'earshotlaw05.SoundReturns': WHATEVER THE INPUT: true; the input reads as it did. -/
def soundReturnsSpec : ChangeSpec := { name := "soundReturns", fn := fun _ => fun
  | [d1, d2, d3] => { results := [.lit (.bool true)], args := [d1, d2, d3] }
  | _ => none }
def soundReturnsRow : OpenClaim := { program := "ythlpenhbcmbgoaagreatdoor", sum := "f86267ae6438b1d38cbb370cd62e543f6f8c41c52f359cb88f13eb2744e0329a", func := "earshot/earshotlaw05.SoundReturns", spec := "soundReturns", inPlace := ["internal/bytealg.abigen_runtime_cmpstring", "internal/abi.NoEscape"], unfollowed := true, recurses := true, named := ["internal/strconv.uint64pow10", "math/bits.deBruijn32tab", "math/bits.deBruijn64tab"], apart := false, laid := [("math/bits.deBruijn32tab", laid_math_bits_deBruijn32tab), ("math/bits.deBruijn64tab", laid_math_bits_deBruijn64tab), ("internal/strconv.uint64pow10", laid_internal_strconv_uint64pow10)] }
def SoundReturnsSaid : Prop := soundReturnsRow.holds Tryz.pinned (OpenSpec.ofChange soundReturnsSpec)

/-- ITS FALSE NEIGHBOUR: 'it returns false'. Refute it at one input. -/
def soundReturnsWrong : ChangeSpec := { name := "soundReturns", fn := fun _ => fun
  | [d1, d2, d3] => { results := [.lit (.bool false)], args := [d1, d2, d3] }
  | _ => none }
def SoundReturnsWrongFalsely : Prop := soundReturnsRow.holds Tryz.pinned (OpenSpec.ofChange soundReturnsWrong)

/-- 'earshotlaw05.SoundSums': WHATEVER THE INPUT: true; the input reads as it did. -/
def soundSumsSpec : ChangeSpec := { name := "soundSums", fn := fun _ => fun
  | [d1, d2] => { results := [.lit (.bool true)], args := [d1, d2] }
  | _ => none }
def soundSumsRow : OpenClaim := { program := "ythlpenhbcmbgoaagreatdoor", sum := "f86267ae6438b1d38cbb370cd62e543f6f8c41c52f359cb88f13eb2744e0329a", func := "earshot/earshotlaw05.SoundSums", spec := "soundSums", inPlace := ["internal/bytealg.abigen_runtime_cmpstring", "internal/abi.NoEscape"], unfollowed := true, recurses := true, named := ["internal/strconv.uint64pow10", "math/bits.deBruijn32tab", "math/bits.deBruijn64tab"], apart := false, laid := [("math/bits.deBruijn32tab", laid_math_bits_deBruijn32tab), ("math/bits.deBruijn64tab", laid_math_bits_deBruijn64tab), ("internal/strconv.uint64pow10", laid_internal_strconv_uint64pow10)] }
def SoundSumsSaid : Prop := soundSumsRow.holds Tryz.pinned (OpenSpec.ofChange soundSumsSpec)

/-- ITS FALSE NEIGHBOUR: 'it returns false'. Refute it at one input. -/
def soundSumsWrong : ChangeSpec := { name := "soundSums", fn := fun _ => fun
  | [d1, d2] => { results := [.lit (.bool false)], args := [d1, d2] }
  | _ => none }
def SoundSumsWrongFalsely : Prop := soundSumsRow.holds Tryz.pinned (OpenSpec.ofChange soundSumsWrong)

/-- 'earshotlaw05.SoundPrecise': WHATEVER THE INPUT: true; the input reads as it did. -/
def soundPreciseSpec : ChangeSpec := { name := "soundPrecise", fn := fun _ => fun
  | [d1, d2, d3, d4] => { results := [.lit (.bool true)], args := [d1, d2, d3, d4] }
  | _ => none }
def soundPreciseRow : OpenClaim := { program := "ythlpenhbcmbgoaagreatdoor", sum := "f86267ae6438b1d38cbb370cd62e543f6f8c41c52f359cb88f13eb2744e0329a", func := "earshot/earshotlaw05.SoundPrecise", spec := "soundPrecise", inPlace := ["internal/bytealg.abigen_runtime_cmpstring", "internal/abi.NoEscape"], unfollowed := true, recurses := true, named := ["internal/strconv.uint64pow10", "math/bits.deBruijn32tab", "math/bits.deBruijn64tab"], apart := false, laid := [("math/bits.deBruijn32tab", laid_math_bits_deBruijn32tab), ("math/bits.deBruijn64tab", laid_math_bits_deBruijn64tab), ("internal/strconv.uint64pow10", laid_internal_strconv_uint64pow10)] }
def SoundPreciseSaid : Prop := soundPreciseRow.holds Tryz.pinned (OpenSpec.ofChange soundPreciseSpec)

/-- ITS FALSE NEIGHBOUR: 'it returns false'. Refute it at one input. -/
def soundPreciseWrong : ChangeSpec := { name := "soundPrecise", fn := fun _ => fun
  | [d1, d2, d3, d4] => { results := [.lit (.bool false)], args := [d1, d2, d3, d4] }
  | _ => none }
def SoundPreciseWrongFalsely : Prop := soundPreciseRow.holds Tryz.pinned (OpenSpec.ofChange soundPreciseWrong)

/-- 'earshotlaw05.SoundLexicons': WHATEVER THE INPUT: true; the input reads as it did. -/
def soundLexiconsSpec : ChangeSpec := { name := "soundLexicons", fn := fun _ => fun
  | [d] => { results := [.lit (.bool true)], args := [d] }
  | _ => none }
def soundLexiconsRow : OpenClaim := { program := "ythlpenhbcmbgoaagreatdoor", sum := "f86267ae6438b1d38cbb370cd62e543f6f8c41c52f359cb88f13eb2744e0329a", func := "earshot/earshotlaw05.SoundLexicons", spec := "soundLexicons", inPlace := ["internal/bytealg.abigen_runtime_cmpstring", "internal/abi.NoEscape"], unfollowed := true, recurses := true, named := ["internal/strconv.uint64pow10", "math/bits.deBruijn32tab", "math/bits.deBruijn64tab"], apart := false, laid := [("math/bits.deBruijn32tab", laid_math_bits_deBruijn32tab), ("math/bits.deBruijn64tab", laid_math_bits_deBruijn64tab), ("internal/strconv.uint64pow10", laid_internal_strconv_uint64pow10)] }
def SoundLexiconsSaid : Prop := soundLexiconsRow.holds Tryz.pinned (OpenSpec.ofChange soundLexiconsSpec)

/-- ITS FALSE NEIGHBOUR: 'it returns false'. Refute it at one input. -/
def soundLexiconsWrong : ChangeSpec := { name := "soundLexicons", fn := fun _ => fun
  | [d] => { results := [.lit (.bool false)], args := [d] }
  | _ => none }
def SoundLexiconsWrongFalsely : Prop := soundLexiconsRow.holds Tryz.pinned (OpenSpec.ofChange soundLexiconsWrong)

/-- 'earshotlaw05.SoundVariants': WHATEVER THE INPUT: true; the input reads as it did. -/
def soundVariantsSpec : ChangeSpec := { name := "soundVariants", fn := fun _ => fun
  | [d1, d2] => { results := [.lit (.bool true)], args := [d1, d2] }
  | _ => none }
def soundVariantsRow : OpenClaim := { program := "ythlpenhbcmbgoaagreatdoor", sum := "f86267ae6438b1d38cbb370cd62e543f6f8c41c52f359cb88f13eb2744e0329a", func := "earshot/earshotlaw05.SoundVariants", spec := "soundVariants", inPlace := ["internal/bytealg.abigen_runtime_cmpstring", "internal/abi.NoEscape"], unfollowed := true, recurses := true, named := ["internal/strconv.uint64pow10", "math/bits.deBruijn32tab", "math/bits.deBruijn64tab"], apart := false, laid := [("math/bits.deBruijn32tab", laid_math_bits_deBruijn32tab), ("math/bits.deBruijn64tab", laid_math_bits_deBruijn64tab), ("internal/strconv.uint64pow10", laid_internal_strconv_uint64pow10)] }
def SoundVariantsSaid : Prop := soundVariantsRow.holds Tryz.pinned (OpenSpec.ofChange soundVariantsSpec)

/-- ITS FALSE NEIGHBOUR: 'it returns false'. Refute it at one input. -/
def soundVariantsWrong : ChangeSpec := { name := "soundVariants", fn := fun _ => fun
  | [d1, d2] => { results := [.lit (.bool false)], args := [d1, d2] }
  | _ => none }
def SoundVariantsWrongFalsely : Prop := soundVariantsRow.holds Tryz.pinned (OpenSpec.ofChange soundVariantsWrong)

/-- 'earshotlaw05.SoundHomophones': WHATEVER THE INPUT: true; the input reads as it did. -/
def soundHomophonesSpec : ChangeSpec := { name := "soundHomophones", fn := fun _ => fun
  | [d] => { results := [.lit (.bool true)], args := [d] }
  | _ => none }
def soundHomophonesRow : OpenClaim := { program := "ythlpenhbcmbgoaagreatdoor", sum := "f86267ae6438b1d38cbb370cd62e543f6f8c41c52f359cb88f13eb2744e0329a", func := "earshot/earshotlaw05.SoundHomophones", spec := "soundHomophones", inPlace := ["internal/bytealg.abigen_runtime_cmpstring", "internal/abi.NoEscape"], unfollowed := true, recurses := true, named := ["internal/strconv.uint64pow10", "math/bits.deBruijn32tab", "math/bits.deBruijn64tab"], apart := false, laid := [("math/bits.deBruijn32tab", laid_math_bits_deBruijn32tab), ("math/bits.deBruijn64tab", laid_math_bits_deBruijn64tab), ("internal/strconv.uint64pow10", laid_internal_strconv_uint64pow10)] }
def SoundHomophonesSaid : Prop := soundHomophonesRow.holds Tryz.pinned (OpenSpec.ofChange soundHomophonesSpec)

/-- ITS FALSE NEIGHBOUR: 'it returns false'. Refute it at one input. -/
def soundHomophonesWrong : ChangeSpec := { name := "soundHomophones", fn := fun _ => fun
  | [d] => { results := [.lit (.bool false)], args := [d] }
  | _ => none }
def SoundHomophonesWrongFalsely : Prop := soundHomophonesRow.holds Tryz.pinned (OpenSpec.ofChange soundHomophonesWrong)

/-- 'earshotlaw05.SoundTrees': WHATEVER THE INPUT: true; the input reads as it did. -/
def soundTreesSpec : ChangeSpec := { name := "soundTrees", fn := fun _ => fun
  | [d] => { results := [.lit (.bool true)], args := [d] }
  | _ => none }
def soundTreesRow : OpenClaim := { program := "ythlpenhbcmbgoaagreatdoor", sum := "f86267ae6438b1d38cbb370cd62e543f6f8c41c52f359cb88f13eb2744e0329a", func := "earshot/earshotlaw05.SoundTrees", spec := "soundTrees", inPlace := ["internal/bytealg.abigen_runtime_cmpstring", "internal/abi.NoEscape"], unfollowed := true, recurses := true, named := ["internal/strconv.uint64pow10", "math/bits.deBruijn32tab", "math/bits.deBruijn64tab"], apart := false, laid := [("math/bits.deBruijn32tab", laid_math_bits_deBruijn32tab), ("math/bits.deBruijn64tab", laid_math_bits_deBruijn64tab), ("internal/strconv.uint64pow10", laid_internal_strconv_uint64pow10)] }
def SoundTreesSaid : Prop := soundTreesRow.holds Tryz.pinned (OpenSpec.ofChange soundTreesSpec)

/-- ITS FALSE NEIGHBOUR: 'it returns false'. Refute it at one input. -/
def soundTreesWrong : ChangeSpec := { name := "soundTrees", fn := fun _ => fun
  | [d] => { results := [.lit (.bool false)], args := [d] }
  | _ => none }
def SoundTreesWrongFalsely : Prop := soundTreesRow.holds Tryz.pinned (OpenSpec.ofChange soundTreesWrong)

/-- 'earshotlaw05.SoundWalks': WHATEVER THE INPUT: true; the input reads as it did. -/
def soundWalksSpec : ChangeSpec := { name := "soundWalks", fn := fun _ => fun
  | [d1, d2] => { results := [.lit (.bool true)], args := [d1, d2] }
  | _ => none }
def soundWalksRow : OpenClaim := { program := "ythlpenhbcmbgoaagreatdoor", sum := "f86267ae6438b1d38cbb370cd62e543f6f8c41c52f359cb88f13eb2744e0329a", func := "earshot/earshotlaw05.SoundWalks", spec := "soundWalks", inPlace := ["internal/bytealg.abigen_runtime_cmpstring", "internal/abi.NoEscape"], unfollowed := true, recurses := true, named := ["internal/strconv.uint64pow10", "math/bits.deBruijn32tab", "math/bits.deBruijn64tab"], apart := false, laid := [("math/bits.deBruijn32tab", laid_math_bits_deBruijn32tab), ("math/bits.deBruijn64tab", laid_math_bits_deBruijn64tab), ("internal/strconv.uint64pow10", laid_internal_strconv_uint64pow10)] }
def SoundWalksSaid : Prop := soundWalksRow.holds Tryz.pinned (OpenSpec.ofChange soundWalksSpec)

/-- ITS FALSE NEIGHBOUR: 'it returns false'. Refute it at one input. -/
def soundWalksWrong : ChangeSpec := { name := "soundWalks", fn := fun _ => fun
  | [d1, d2] => { results := [.lit (.bool false)], args := [d1, d2] }
  | _ => none }
def SoundWalksWrongFalsely : Prop := soundWalksRow.holds Tryz.pinned (OpenSpec.ofChange soundWalksWrong)

/-- 'earshotlaw05.SoundMakes': WHATEVER THE INPUT: true; the input reads as it did. -/
def soundMakesSpec : ChangeSpec := { name := "soundMakes", fn := fun _ => fun
  | [d] => { results := [.lit (.bool true)], args := [d] }
  | _ => none }
def soundMakesRow : OpenClaim := { program := "ythlpenhbcmbgoaagreatdoor", sum := "f86267ae6438b1d38cbb370cd62e543f6f8c41c52f359cb88f13eb2744e0329a", func := "earshot/earshotlaw05.SoundMakes", spec := "soundMakes", inPlace := ["internal/bytealg.abigen_runtime_cmpstring", "internal/abi.NoEscape"], unfollowed := true, recurses := true, named := ["internal/strconv.uint64pow10", "math/bits.deBruijn32tab", "math/bits.deBruijn64tab"], apart := false, laid := [("math/bits.deBruijn32tab", laid_math_bits_deBruijn32tab), ("math/bits.deBruijn64tab", laid_math_bits_deBruijn64tab), ("internal/strconv.uint64pow10", laid_internal_strconv_uint64pow10)] }
def SoundMakesSaid : Prop := soundMakesRow.holds Tryz.pinned (OpenSpec.ofChange soundMakesSpec)

/-- ITS FALSE NEIGHBOUR: 'it returns false'. Refute it at one input. -/
def soundMakesWrong : ChangeSpec := { name := "soundMakes", fn := fun _ => fun
  | [d] => { results := [.lit (.bool false)], args := [d] }
  | _ => none }
def SoundMakesWrongFalsely : Prop := soundMakesRow.holds Tryz.pinned (OpenSpec.ofChange soundMakesWrong)

/-- 'earshotlaw05.SoundOrders': WHATEVER THE INPUT: true; the input reads as it did. -/
def soundOrdersSpec : ChangeSpec := { name := "soundOrders", fn := fun _ => fun
  | [d1, d2, d3] => { results := [.lit (.bool true)], args := [d1, d2, d3] }
  | _ => none }
def soundOrdersRow : OpenClaim := { program := "ythlpenhbcmbgoaagreatdoor", sum := "f86267ae6438b1d38cbb370cd62e543f6f8c41c52f359cb88f13eb2744e0329a", func := "earshot/earshotlaw05.SoundOrders", spec := "soundOrders", inPlace := ["internal/bytealg.abigen_runtime_cmpstring", "internal/abi.NoEscape"], unfollowed := true, recurses := true, named := ["internal/strconv.uint64pow10", "math/bits.deBruijn32tab", "math/bits.deBruijn64tab"], apart := false, laid := [("math/bits.deBruijn32tab", laid_math_bits_deBruijn32tab), ("math/bits.deBruijn64tab", laid_math_bits_deBruijn64tab), ("internal/strconv.uint64pow10", laid_internal_strconv_uint64pow10)] }
def SoundOrdersSaid : Prop := soundOrdersRow.holds Tryz.pinned (OpenSpec.ofChange soundOrdersSpec)

/-- ITS FALSE NEIGHBOUR: 'it returns false'. Refute it at one input. -/
def soundOrdersWrong : ChangeSpec := { name := "soundOrders", fn := fun _ => fun
  | [d1, d2, d3] => { results := [.lit (.bool false)], args := [d1, d2, d3] }
  | _ => none }
def SoundOrdersWrongFalsely : Prop := soundOrdersRow.holds Tryz.pinned (OpenSpec.ofChange soundOrdersWrong)

/- THE SECOND FORM. 'bulk': how many values and letters a reading holds, each counted each time it is reached (what is shared counts as often as it is met; a slice's spare places count too). A statement '..UptoSaid' is the law's where the arguments, and the package variables that the reading takes, are together of bulk at most 1048576: NARROWER than '..Said'. Prove '..Said' where nothing that the law and all that it calls make is longer than what came in: it says more and counts as full. Else prove '..UptoSaid'. A law counts once. -/
mutual
def uptoBulk {H : Type} : DataW H → Nat
  | .lit (.string bytes) => bytes.length + 1
  | .lit _ => 1
  | .nil => 1
  | .ptr d => uptoBulk d + 1
  | .slice elems spare => uptoBulkAll elems + uptoBulkAll spare + 1
  | .agg parts => uptoBulkAll parts + 1
  | .iface _ d => uptoBulk d + 1
  | .map entries => uptoBulkEntries entries + 1
  | .held _ => 1
def uptoBulkAll {H : Type} : List (DataW H) → Nat
  | [] => 0
  | d :: r => uptoBulk d + uptoBulkAll r
def uptoBulkEntries {H : Type} : List (Lit × DataW H) → Nat
  | [] => 0
  | x :: r => uptoBulkEntry x + uptoBulkEntries r
def uptoBulkEntry {H : Type} : Lit × DataW H → Nat
  | (.string bytes, d) => bytes.length + uptoBulk d + 1
  | (_, d) => uptoBulk d + 1
 end
def uptoSmall : (H : Type) → List (DataW H) → Bool := fun _ ds => decide (uptoBulkAll ds ≤ 1048576)
def OpenSpec.upto (s : _root_.Go.ChangeSpec) : _root_.Go.OpenSpec := { _root_.Go.OpenSpec.ofChange s with cond := some uptoSmall }

/-- 'earshotlaw05.SoundJoins', WHERE WHAT IT READS IS OF BULK AT MOST 1048576: true; the input reads as it did. -/
def soundJoinsUptoRow : OpenClaim := { program := "ythlpenhbcmbgoaagreatdoor", sum := "f86267ae6438b1d38cbb370cd62e543f6f8c41c52f359cb88f13eb2744e0329a", func := "earshot/earshotlaw05.SoundJoins", spec := "soundJoins", inPlace := ["internal/bytealg.abigen_runtime_cmpstring", "internal/abi.NoEscape"], unfollowed := true, recurses := true, named := ["internal/strconv.uint64pow10", "math/bits.deBruijn32tab", "math/bits.deBruijn64tab"], apart := false, laid := [("math/bits.deBruijn32tab", laid_math_bits_deBruijn32tab), ("math/bits.deBruijn64tab", laid_math_bits_deBruijn64tab), ("internal/strconv.uint64pow10", laid_internal_strconv_uint64pow10)], narrowed := true }
def SoundJoinsUptoSaid : Prop := soundJoinsUptoRow.holds Tryz.pinned (OpenSpec.upto soundJoinsSpec)

/-- 'earshotlaw05.SoundReturns', WHERE WHAT IT READS IS OF BULK AT MOST 1048576: true; the input reads as it did. -/
def soundReturnsUptoRow : OpenClaim := { program := "ythlpenhbcmbgoaagreatdoor", sum := "f86267ae6438b1d38cbb370cd62e543f6f8c41c52f359cb88f13eb2744e0329a", func := "earshot/earshotlaw05.SoundReturns", spec := "soundReturns", inPlace := ["internal/bytealg.abigen_runtime_cmpstring", "internal/abi.NoEscape"], unfollowed := true, recurses := true, named := ["internal/strconv.uint64pow10", "math/bits.deBruijn32tab", "math/bits.deBruijn64tab"], apart := false, laid := [("math/bits.deBruijn32tab", laid_math_bits_deBruijn32tab), ("math/bits.deBruijn64tab", laid_math_bits_deBruijn64tab), ("internal/strconv.uint64pow10", laid_internal_strconv_uint64pow10)], narrowed := true }
def SoundReturnsUptoSaid : Prop := soundReturnsUptoRow.holds Tryz.pinned (OpenSpec.upto soundReturnsSpec)

/-- 'earshotlaw05.SoundSums', WHERE WHAT IT READS IS OF BULK AT MOST 1048576: true; the input reads as it did. -/
def soundSumsUptoRow : OpenClaim := { program := "ythlpenhbcmbgoaagreatdoor", sum := "f86267ae6438b1d38cbb370cd62e543f6f8c41c52f359cb88f13eb2744e0329a", func := "earshot/earshotlaw05.SoundSums", spec := "soundSums", inPlace := ["internal/bytealg.abigen_runtime_cmpstring", "internal/abi.NoEscape"], unfollowed := true, recurses := true, named := ["internal/strconv.uint64pow10", "math/bits.deBruijn32tab", "math/bits.deBruijn64tab"], apart := false, laid := [("math/bits.deBruijn32tab", laid_math_bits_deBruijn32tab), ("math/bits.deBruijn64tab", laid_math_bits_deBruijn64tab), ("internal/strconv.uint64pow10", laid_internal_strconv_uint64pow10)], narrowed := true }
def SoundSumsUptoSaid : Prop := soundSumsUptoRow.holds Tryz.pinned (OpenSpec.upto soundSumsSpec)

/-- 'earshotlaw05.SoundPrecise', WHERE WHAT IT READS IS OF BULK AT MOST 1048576: true; the input reads as it did. -/
def soundPreciseUptoRow : OpenClaim := { program := "ythlpenhbcmbgoaagreatdoor", sum := "f86267ae6438b1d38cbb370cd62e543f6f8c41c52f359cb88f13eb2744e0329a", func := "earshot/earshotlaw05.SoundPrecise", spec := "soundPrecise", inPlace := ["internal/bytealg.abigen_runtime_cmpstring", "internal/abi.NoEscape"], unfollowed := true, recurses := true, named := ["internal/strconv.uint64pow10", "math/bits.deBruijn32tab", "math/bits.deBruijn64tab"], apart := false, laid := [("math/bits.deBruijn32tab", laid_math_bits_deBruijn32tab), ("math/bits.deBruijn64tab", laid_math_bits_deBruijn64tab), ("internal/strconv.uint64pow10", laid_internal_strconv_uint64pow10)], narrowed := true }
def SoundPreciseUptoSaid : Prop := soundPreciseUptoRow.holds Tryz.pinned (OpenSpec.upto soundPreciseSpec)

/-- 'earshotlaw05.SoundLexicons', WHERE WHAT IT READS IS OF BULK AT MOST 1048576: true; the input reads as it did. -/
def soundLexiconsUptoRow : OpenClaim := { program := "ythlpenhbcmbgoaagreatdoor", sum := "f86267ae6438b1d38cbb370cd62e543f6f8c41c52f359cb88f13eb2744e0329a", func := "earshot/earshotlaw05.SoundLexicons", spec := "soundLexicons", inPlace := ["internal/bytealg.abigen_runtime_cmpstring", "internal/abi.NoEscape"], unfollowed := true, recurses := true, named := ["internal/strconv.uint64pow10", "math/bits.deBruijn32tab", "math/bits.deBruijn64tab"], apart := false, laid := [("math/bits.deBruijn32tab", laid_math_bits_deBruijn32tab), ("math/bits.deBruijn64tab", laid_math_bits_deBruijn64tab), ("internal/strconv.uint64pow10", laid_internal_strconv_uint64pow10)], narrowed := true }
def SoundLexiconsUptoSaid : Prop := soundLexiconsUptoRow.holds Tryz.pinned (OpenSpec.upto soundLexiconsSpec)

/-- 'earshotlaw05.SoundVariants', WHERE WHAT IT READS IS OF BULK AT MOST 1048576: true; the input reads as it did. -/
def soundVariantsUptoRow : OpenClaim := { program := "ythlpenhbcmbgoaagreatdoor", sum := "f86267ae6438b1d38cbb370cd62e543f6f8c41c52f359cb88f13eb2744e0329a", func := "earshot/earshotlaw05.SoundVariants", spec := "soundVariants", inPlace := ["internal/bytealg.abigen_runtime_cmpstring", "internal/abi.NoEscape"], unfollowed := true, recurses := true, named := ["internal/strconv.uint64pow10", "math/bits.deBruijn32tab", "math/bits.deBruijn64tab"], apart := false, laid := [("math/bits.deBruijn32tab", laid_math_bits_deBruijn32tab), ("math/bits.deBruijn64tab", laid_math_bits_deBruijn64tab), ("internal/strconv.uint64pow10", laid_internal_strconv_uint64pow10)], narrowed := true }
def SoundVariantsUptoSaid : Prop := soundVariantsUptoRow.holds Tryz.pinned (OpenSpec.upto soundVariantsSpec)

/-- 'earshotlaw05.SoundHomophones', WHERE WHAT IT READS IS OF BULK AT MOST 1048576: true; the input reads as it did. -/
def soundHomophonesUptoRow : OpenClaim := { program := "ythlpenhbcmbgoaagreatdoor", sum := "f86267ae6438b1d38cbb370cd62e543f6f8c41c52f359cb88f13eb2744e0329a", func := "earshot/earshotlaw05.SoundHomophones", spec := "soundHomophones", inPlace := ["internal/bytealg.abigen_runtime_cmpstring", "internal/abi.NoEscape"], unfollowed := true, recurses := true, named := ["internal/strconv.uint64pow10", "math/bits.deBruijn32tab", "math/bits.deBruijn64tab"], apart := false, laid := [("math/bits.deBruijn32tab", laid_math_bits_deBruijn32tab), ("math/bits.deBruijn64tab", laid_math_bits_deBruijn64tab), ("internal/strconv.uint64pow10", laid_internal_strconv_uint64pow10)], narrowed := true }
def SoundHomophonesUptoSaid : Prop := soundHomophonesUptoRow.holds Tryz.pinned (OpenSpec.upto soundHomophonesSpec)

/-- 'earshotlaw05.SoundTrees', WHERE WHAT IT READS IS OF BULK AT MOST 1048576: true; the input reads as it did. -/
def soundTreesUptoRow : OpenClaim := { program := "ythlpenhbcmbgoaagreatdoor", sum := "f86267ae6438b1d38cbb370cd62e543f6f8c41c52f359cb88f13eb2744e0329a", func := "earshot/earshotlaw05.SoundTrees", spec := "soundTrees", inPlace := ["internal/bytealg.abigen_runtime_cmpstring", "internal/abi.NoEscape"], unfollowed := true, recurses := true, named := ["internal/strconv.uint64pow10", "math/bits.deBruijn32tab", "math/bits.deBruijn64tab"], apart := false, laid := [("math/bits.deBruijn32tab", laid_math_bits_deBruijn32tab), ("math/bits.deBruijn64tab", laid_math_bits_deBruijn64tab), ("internal/strconv.uint64pow10", laid_internal_strconv_uint64pow10)], narrowed := true }
def SoundTreesUptoSaid : Prop := soundTreesUptoRow.holds Tryz.pinned (OpenSpec.upto soundTreesSpec)

/-- 'earshotlaw05.SoundWalks', WHERE WHAT IT READS IS OF BULK AT MOST 1048576: true; the input reads as it did. -/
def soundWalksUptoRow : OpenClaim := { program := "ythlpenhbcmbgoaagreatdoor", sum := "f86267ae6438b1d38cbb370cd62e543f6f8c41c52f359cb88f13eb2744e0329a", func := "earshot/earshotlaw05.SoundWalks", spec := "soundWalks", inPlace := ["internal/bytealg.abigen_runtime_cmpstring", "internal/abi.NoEscape"], unfollowed := true, recurses := true, named := ["internal/strconv.uint64pow10", "math/bits.deBruijn32tab", "math/bits.deBruijn64tab"], apart := false, laid := [("math/bits.deBruijn32tab", laid_math_bits_deBruijn32tab), ("math/bits.deBruijn64tab", laid_math_bits_deBruijn64tab), ("internal/strconv.uint64pow10", laid_internal_strconv_uint64pow10)], narrowed := true }
def SoundWalksUptoSaid : Prop := soundWalksUptoRow.holds Tryz.pinned (OpenSpec.upto soundWalksSpec)

/-- 'earshotlaw05.SoundMakes', WHERE WHAT IT READS IS OF BULK AT MOST 1048576: true; the input reads as it did. -/
def soundMakesUptoRow : OpenClaim := { program := "ythlpenhbcmbgoaagreatdoor", sum := "f86267ae6438b1d38cbb370cd62e543f6f8c41c52f359cb88f13eb2744e0329a", func := "earshot/earshotlaw05.SoundMakes", spec := "soundMakes", inPlace := ["internal/bytealg.abigen_runtime_cmpstring", "internal/abi.NoEscape"], unfollowed := true, recurses := true, named := ["internal/strconv.uint64pow10", "math/bits.deBruijn32tab", "math/bits.deBruijn64tab"], apart := false, laid := [("math/bits.deBruijn32tab", laid_math_bits_deBruijn32tab), ("math/bits.deBruijn64tab", laid_math_bits_deBruijn64tab), ("internal/strconv.uint64pow10", laid_internal_strconv_uint64pow10)], narrowed := true }
def SoundMakesUptoSaid : Prop := soundMakesUptoRow.holds Tryz.pinned (OpenSpec.upto soundMakesSpec)

/-- 'earshotlaw05.SoundOrders', WHERE WHAT IT READS IS OF BULK AT MOST 1048576: true; the input reads as it did. -/
def soundOrdersUptoRow : OpenClaim := { program := "ythlpenhbcmbgoaagreatdoor", sum := "f86267ae6438b1d38cbb370cd62e543f6f8c41c52f359cb88f13eb2744e0329a", func := "earshot/earshotlaw05.SoundOrders", spec := "soundOrders", inPlace := ["internal/bytealg.abigen_runtime_cmpstring", "internal/abi.NoEscape"], unfollowed := true, recurses := true, named := ["internal/strconv.uint64pow10", "math/bits.deBruijn32tab", "math/bits.deBruijn64tab"], apart := false, laid := [("math/bits.deBruijn32tab", laid_math_bits_deBruijn32tab), ("math/bits.deBruijn64tab", laid_math_bits_deBruijn64tab), ("internal/strconv.uint64pow10", laid_internal_strconv_uint64pow10)], narrowed := true }
def SoundOrdersUptoSaid : Prop := soundOrdersUptoRow.holds Tryz.pinned (OpenSpec.upto soundOrdersSpec)

end Rows
end Go.Proofs.YthlpenhbcmbgoaaGreatDoor
