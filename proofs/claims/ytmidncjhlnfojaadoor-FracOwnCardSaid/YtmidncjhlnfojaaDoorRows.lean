/-
  NARROWER THAN 'FOR EVERY INPUT', by the rows' own cells (each row's printed sentence says how): FracPows: laid · FracFloors: laid · FracTexts: laid · FracDecimals: laid · FracParses: laid · FracOrders: laid · FracAdds: laid · FracMuls: laid · FracPowers: laid · FracOrdered: laid · FracField: laid · FracOwn: laid · FracCanon: laid · FracMakes: laid · FracWhole: laid · FracLists: laid · FracNormal: laid.
  DERIVED. THE GIVEN ROWS OF THIS SEAT. 17 by the template 'for every input the law returns true; each argument reads behind the call as it read before'; 0 by the template 'total and deterministic' (their statements: YtmidncjhlnfojaaDoorTotals.lean).
  GIVEN WITH THE SEED: the statements are not yours to turn. If you find one false, say at which input.
  Laid BY PROGRAM, IN A SANDBOX (cutbox-rows.mjs): the forced cells as the released guide's own fill.sh prints them over the translation 6da6ce5173f76a7b… (all of the seat's roots in one cut). By AI agents, Wed Nov 11 2026. No macro, syntax, notation, axiom, sorry.
-/
import Derived.Test.YtmidncjhlnfojaaDoorChecked
import GoSem.Claim
import GoSem.ClaimJoined
import GoSem.ClaimMapViews
import Derived.JoinedTies
import Derived.KernelRfl
namespace Go.Proofs.YtmidncjhlnfojaaDoor
/- THE CELL 'sum', in the pinned program and in every row, IS THE sha256 OF THE DUMP (.gsa) THAT YtmidncjhlnfojaaDoorProg.lean LOADS. Nothing in Lean hashes anything: it is a label: what it is worth is what the hold of that sum in a sandbox is worth. -/
noncomputable def Tryd.pinned : Pinned := { name := "ytmidncjhlnfojaadoor", sum := "6da6ce5173f76a7b1f3abaaa592791ceb8a1a5841ebd11f0d60bef55de182e05", checked := Tryd.checked }
namespace Rows
def none {H : Type} : Left H := { results := [], args := [] }

/- WHAT THE LISTED PACKAGE-LEVEL VARIABLES READ AS WHEN THE CALL BEGINS. Each datum BY PROGRAM (the guide's laid-datum.mjs) off the statement by which the dump's own 'gosem.cut.vars' lays the variable. In a bare row this is a premise. The card (YtmidncjhlnfojaaDoorCards.lean) ties it to the program's text. -/
def laid_math_bits_deBruijn32tab {H : Type} : DataW H := .agg [.lit (.int .u8 0), .lit (.int .u8 1), .lit (.int .u8 28), .lit (.int .u8 2), .lit (.int .u8 29), .lit (.int .u8 14), .lit (.int .u8 24), .lit (.int .u8 3), .lit (.int .u8 30), .lit (.int .u8 22), .lit (.int .u8 20), .lit (.int .u8 15), .lit (.int .u8 25), .lit (.int .u8 17), .lit (.int .u8 4), .lit (.int .u8 8), .lit (.int .u8 31), .lit (.int .u8 27), .lit (.int .u8 13), .lit (.int .u8 23), .lit (.int .u8 21), .lit (.int .u8 19), .lit (.int .u8 16), .lit (.int .u8 7), .lit (.int .u8 26), .lit (.int .u8 12), .lit (.int .u8 18), .lit (.int .u8 6), .lit (.int .u8 11), .lit (.int .u8 5), .lit (.int .u8 10), .lit (.int .u8 9)]
def laid_math_bits_deBruijn64tab {H : Type} : DataW H := .agg [.lit (.int .u8 0), .lit (.int .u8 1), .lit (.int .u8 56), .lit (.int .u8 2), .lit (.int .u8 57), .lit (.int .u8 49), .lit (.int .u8 28), .lit (.int .u8 3), .lit (.int .u8 61), .lit (.int .u8 58), .lit (.int .u8 42), .lit (.int .u8 50), .lit (.int .u8 38), .lit (.int .u8 29), .lit (.int .u8 17), .lit (.int .u8 4), .lit (.int .u8 62), .lit (.int .u8 47), .lit (.int .u8 59), .lit (.int .u8 36), .lit (.int .u8 45), .lit (.int .u8 43), .lit (.int .u8 51), .lit (.int .u8 22), .lit (.int .u8 53), .lit (.int .u8 39), .lit (.int .u8 33), .lit (.int .u8 30), .lit (.int .u8 24), .lit (.int .u8 18), .lit (.int .u8 12), .lit (.int .u8 5), .lit (.int .u8 63), .lit (.int .u8 55), .lit (.int .u8 48), .lit (.int .u8 27), .lit (.int .u8 60), .lit (.int .u8 41), .lit (.int .u8 37), .lit (.int .u8 16), .lit (.int .u8 46), .lit (.int .u8 35), .lit (.int .u8 44), .lit (.int .u8 21), .lit (.int .u8 52), .lit (.int .u8 32), .lit (.int .u8 23), .lit (.int .u8 11), .lit (.int .u8 54), .lit (.int .u8 26), .lit (.int .u8 40), .lit (.int .u8 15), .lit (.int .u8 34), .lit (.int .u8 20), .lit (.int .u8 31), .lit (.int .u8 10), .lit (.int .u8 25), .lit (.int .u8 14), .lit (.int .u8 19), .lit (.int .u8 9), .lit (.int .u8 13), .lit (.int .u8 8), .lit (.int .u8 7), .lit (.int .u8 6)]
def laid_internal_strconv_uint64pow10 {H : Type} : DataW H := .agg [.lit (.int .u64 1), .lit (.int .u64 10), .lit (.int .u64 100), .lit (.int .u64 1000), .lit (.int .u64 10000), .lit (.int .u64 100000), .lit (.int .u64 1000000), .lit (.int .u64 10000000), .lit (.int .u64 100000000), .lit (.int .u64 1000000000), .lit (.int .u64 10000000000), .lit (.int .u64 100000000000), .lit (.int .u64 1000000000000), .lit (.int .u64 10000000000000), .lit (.int .u64 100000000000000), .lit (.int .u64 1000000000000000), .lit (.int .u64 10000000000000000), .lit (.int .u64 100000000000000000), .lit (.int .u64 1000000000000000000), .lit (.int .u64 10000000000000000000)]

/-- 'earshotlaw01.FracPows': WHATEVER THE INPUT: true; the input reads as it did. -/
def fracPowsSpec : ChangeSpec := { name := "fracPows", fn := fun _ => fun
  | [d1, d2] => { results := [.lit (.bool true)], args := [d1, d2] }
  | _ => none }
def fracPowsRow : OpenClaim := { program := "ytmidncjhlnfojaadoor", sum := "6da6ce5173f76a7b1f3abaaa592791ceb8a1a5841ebd11f0d60bef55de182e05", func := "earshot/earshotlaw01.FracPows", spec := "fracPows", unfollowed := true, recurses := true, named := ["internal/strconv.uint64pow10", "math/bits.deBruijn32tab", "math/bits.deBruijn64tab"], apart := false, laid := [("math/bits.deBruijn32tab", laid_math_bits_deBruijn32tab), ("math/bits.deBruijn64tab", laid_math_bits_deBruijn64tab), ("internal/strconv.uint64pow10", laid_internal_strconv_uint64pow10)] }
def FracPowsSaid : Prop := fracPowsRow.holds Tryd.pinned (OpenSpec.ofChange fracPowsSpec)

/-- ITS FALSE NEIGHBOUR: 'it returns false'. Refute it at one input. -/
def fracPowsWrong : ChangeSpec := { name := "fracPows", fn := fun _ => fun
  | [d1, d2] => { results := [.lit (.bool false)], args := [d1, d2] }
  | _ => none }
def FracPowsWrongFalsely : Prop := fracPowsRow.holds Tryd.pinned (OpenSpec.ofChange fracPowsWrong)

/-- 'earshotlaw01.FracFloors': WHATEVER THE INPUT: true; the input reads as it did. -/
def fracFloorsSpec : ChangeSpec := { name := "fracFloors", fn := fun _ => fun
  | [d1, d2] => { results := [.lit (.bool true)], args := [d1, d2] }
  | _ => none }
def fracFloorsRow : OpenClaim := { program := "ytmidncjhlnfojaadoor", sum := "6da6ce5173f76a7b1f3abaaa592791ceb8a1a5841ebd11f0d60bef55de182e05", func := "earshot/earshotlaw01.FracFloors", spec := "fracFloors", unfollowed := true, recurses := true, named := ["internal/strconv.uint64pow10", "math/bits.deBruijn32tab", "math/bits.deBruijn64tab"], apart := false, laid := [("math/bits.deBruijn32tab", laid_math_bits_deBruijn32tab), ("math/bits.deBruijn64tab", laid_math_bits_deBruijn64tab), ("internal/strconv.uint64pow10", laid_internal_strconv_uint64pow10)] }
def FracFloorsSaid : Prop := fracFloorsRow.holds Tryd.pinned (OpenSpec.ofChange fracFloorsSpec)

/-- ITS FALSE NEIGHBOUR: 'it returns false'. Refute it at one input. -/
def fracFloorsWrong : ChangeSpec := { name := "fracFloors", fn := fun _ => fun
  | [d1, d2] => { results := [.lit (.bool false)], args := [d1, d2] }
  | _ => none }
def FracFloorsWrongFalsely : Prop := fracFloorsRow.holds Tryd.pinned (OpenSpec.ofChange fracFloorsWrong)

/-- 'earshotlaw01.FracTexts': WHATEVER THE INPUT: true; the input reads as it did. -/
def fracTextsSpec : ChangeSpec := { name := "fracTexts", fn := fun _ => fun
  | [d] => { results := [.lit (.bool true)], args := [d] }
  | _ => none }
def fracTextsRow : OpenClaim := { program := "ytmidncjhlnfojaadoor", sum := "6da6ce5173f76a7b1f3abaaa592791ceb8a1a5841ebd11f0d60bef55de182e05", func := "earshot/earshotlaw01.FracTexts", spec := "fracTexts", unfollowed := true, recurses := true, named := ["internal/strconv.uint64pow10", "math/bits.deBruijn32tab", "math/bits.deBruijn64tab"], apart := false, laid := [("math/bits.deBruijn32tab", laid_math_bits_deBruijn32tab), ("math/bits.deBruijn64tab", laid_math_bits_deBruijn64tab), ("internal/strconv.uint64pow10", laid_internal_strconv_uint64pow10)] }
def FracTextsSaid : Prop := fracTextsRow.holds Tryd.pinned (OpenSpec.ofChange fracTextsSpec)

/-- ITS FALSE NEIGHBOUR: 'it returns false'. Refute it at one input. -/
def fracTextsWrong : ChangeSpec := { name := "fracTexts", fn := fun _ => fun
  | [d] => { results := [.lit (.bool false)], args := [d] }
  | _ => none }
def FracTextsWrongFalsely : Prop := fracTextsRow.holds Tryd.pinned (OpenSpec.ofChange fracTextsWrong)

/-- 'earshotlaw01.FracDecimals': WHATEVER THE INPUT: true; the input reads as it did. -/
def fracDecimalsSpec : ChangeSpec := { name := "fracDecimals", fn := fun _ => fun
  | [d1, d2] => { results := [.lit (.bool true)], args := [d1, d2] }
  | _ => none }
def fracDecimalsRow : OpenClaim := { program := "ytmidncjhlnfojaadoor", sum := "6da6ce5173f76a7b1f3abaaa592791ceb8a1a5841ebd11f0d60bef55de182e05", func := "earshot/earshotlaw01.FracDecimals", spec := "fracDecimals", unfollowed := true, recurses := true, named := ["internal/strconv.uint64pow10", "math/bits.deBruijn32tab", "math/bits.deBruijn64tab"], apart := false, laid := [("math/bits.deBruijn32tab", laid_math_bits_deBruijn32tab), ("math/bits.deBruijn64tab", laid_math_bits_deBruijn64tab), ("internal/strconv.uint64pow10", laid_internal_strconv_uint64pow10)] }
def FracDecimalsSaid : Prop := fracDecimalsRow.holds Tryd.pinned (OpenSpec.ofChange fracDecimalsSpec)

/-- ITS FALSE NEIGHBOUR: 'it returns false'. Refute it at one input. -/
def fracDecimalsWrong : ChangeSpec := { name := "fracDecimals", fn := fun _ => fun
  | [d1, d2] => { results := [.lit (.bool false)], args := [d1, d2] }
  | _ => none }
def FracDecimalsWrongFalsely : Prop := fracDecimalsRow.holds Tryd.pinned (OpenSpec.ofChange fracDecimalsWrong)

/-- 'earshotlaw01.FracParses': WHATEVER THE INPUT: true; the input reads as it did. -/
def fracParsesSpec : ChangeSpec := { name := "fracParses", fn := fun _ => fun
  | [d] => { results := [.lit (.bool true)], args := [d] }
  | _ => none }
def fracParsesRow : OpenClaim := { program := "ytmidncjhlnfojaadoor", sum := "6da6ce5173f76a7b1f3abaaa592791ceb8a1a5841ebd11f0d60bef55de182e05", func := "earshot/earshotlaw01.FracParses", spec := "fracParses", unfollowed := true, recurses := true, named := ["internal/strconv.uint64pow10", "math/bits.deBruijn32tab", "math/bits.deBruijn64tab"], apart := false, laid := [("math/bits.deBruijn32tab", laid_math_bits_deBruijn32tab), ("math/bits.deBruijn64tab", laid_math_bits_deBruijn64tab), ("internal/strconv.uint64pow10", laid_internal_strconv_uint64pow10)] }
def FracParsesSaid : Prop := fracParsesRow.holds Tryd.pinned (OpenSpec.ofChange fracParsesSpec)

/-- ITS FALSE NEIGHBOUR: 'it returns false'. Refute it at one input. -/
def fracParsesWrong : ChangeSpec := { name := "fracParses", fn := fun _ => fun
  | [d] => { results := [.lit (.bool false)], args := [d] }
  | _ => none }
def FracParsesWrongFalsely : Prop := fracParsesRow.holds Tryd.pinned (OpenSpec.ofChange fracParsesWrong)

/-- 'earshotlaw01.FracOrders': WHATEVER THE INPUT: true; the input reads as it did. -/
def fracOrdersSpec : ChangeSpec := { name := "fracOrders", fn := fun _ => fun
  | [d1, d2] => { results := [.lit (.bool true)], args := [d1, d2] }
  | _ => none }
def fracOrdersRow : OpenClaim := { program := "ytmidncjhlnfojaadoor", sum := "6da6ce5173f76a7b1f3abaaa592791ceb8a1a5841ebd11f0d60bef55de182e05", func := "earshot/earshotlaw01.FracOrders", spec := "fracOrders", unfollowed := true, recurses := true, named := ["internal/strconv.uint64pow10", "math/bits.deBruijn32tab", "math/bits.deBruijn64tab"], apart := false, laid := [("math/bits.deBruijn32tab", laid_math_bits_deBruijn32tab), ("math/bits.deBruijn64tab", laid_math_bits_deBruijn64tab), ("internal/strconv.uint64pow10", laid_internal_strconv_uint64pow10)] }
def FracOrdersSaid : Prop := fracOrdersRow.holds Tryd.pinned (OpenSpec.ofChange fracOrdersSpec)

/-- ITS FALSE NEIGHBOUR: 'it returns false'. Refute it at one input. -/
def fracOrdersWrong : ChangeSpec := { name := "fracOrders", fn := fun _ => fun
  | [d1, d2] => { results := [.lit (.bool false)], args := [d1, d2] }
  | _ => none }
def FracOrdersWrongFalsely : Prop := fracOrdersRow.holds Tryd.pinned (OpenSpec.ofChange fracOrdersWrong)

/-- 'earshotlaw01.FracAdds': WHATEVER THE INPUT: true; the input reads as it did. -/
def fracAddsSpec : ChangeSpec := { name := "fracAdds", fn := fun _ => fun
  | [d1, d2] => { results := [.lit (.bool true)], args := [d1, d2] }
  | _ => none }
def fracAddsRow : OpenClaim := { program := "ytmidncjhlnfojaadoor", sum := "6da6ce5173f76a7b1f3abaaa592791ceb8a1a5841ebd11f0d60bef55de182e05", func := "earshot/earshotlaw01.FracAdds", spec := "fracAdds", unfollowed := true, recurses := true, named := ["internal/strconv.uint64pow10", "math/bits.deBruijn32tab", "math/bits.deBruijn64tab"], apart := false, laid := [("math/bits.deBruijn32tab", laid_math_bits_deBruijn32tab), ("math/bits.deBruijn64tab", laid_math_bits_deBruijn64tab), ("internal/strconv.uint64pow10", laid_internal_strconv_uint64pow10)] }
def FracAddsSaid : Prop := fracAddsRow.holds Tryd.pinned (OpenSpec.ofChange fracAddsSpec)

/-- ITS FALSE NEIGHBOUR: 'it returns false'. Refute it at one input. -/
def fracAddsWrong : ChangeSpec := { name := "fracAdds", fn := fun _ => fun
  | [d1, d2] => { results := [.lit (.bool false)], args := [d1, d2] }
  | _ => none }
def FracAddsWrongFalsely : Prop := fracAddsRow.holds Tryd.pinned (OpenSpec.ofChange fracAddsWrong)

/-- 'earshotlaw01.FracMuls': WHATEVER THE INPUT: true; the input reads as it did. -/
def fracMulsSpec : ChangeSpec := { name := "fracMuls", fn := fun _ => fun
  | [d1, d2] => { results := [.lit (.bool true)], args := [d1, d2] }
  | _ => none }
def fracMulsRow : OpenClaim := { program := "ytmidncjhlnfojaadoor", sum := "6da6ce5173f76a7b1f3abaaa592791ceb8a1a5841ebd11f0d60bef55de182e05", func := "earshot/earshotlaw01.FracMuls", spec := "fracMuls", unfollowed := true, recurses := true, named := ["internal/strconv.uint64pow10", "math/bits.deBruijn32tab", "math/bits.deBruijn64tab"], apart := false, laid := [("math/bits.deBruijn32tab", laid_math_bits_deBruijn32tab), ("math/bits.deBruijn64tab", laid_math_bits_deBruijn64tab), ("internal/strconv.uint64pow10", laid_internal_strconv_uint64pow10)] }
def FracMulsSaid : Prop := fracMulsRow.holds Tryd.pinned (OpenSpec.ofChange fracMulsSpec)

/-- ITS FALSE NEIGHBOUR: 'it returns false'. Refute it at one input. -/
def fracMulsWrong : ChangeSpec := { name := "fracMuls", fn := fun _ => fun
  | [d1, d2] => { results := [.lit (.bool false)], args := [d1, d2] }
  | _ => none }
def FracMulsWrongFalsely : Prop := fracMulsRow.holds Tryd.pinned (OpenSpec.ofChange fracMulsWrong)

/-- 'earshotlaw01.FracPowers': WHATEVER THE INPUT: true; the input reads as it did. -/
def fracPowersSpec : ChangeSpec := { name := "fracPowers", fn := fun _ => fun
  | [d1, d2, d3] => { results := [.lit (.bool true)], args := [d1, d2, d3] }
  | _ => none }
def fracPowersRow : OpenClaim := { program := "ytmidncjhlnfojaadoor", sum := "6da6ce5173f76a7b1f3abaaa592791ceb8a1a5841ebd11f0d60bef55de182e05", func := "earshot/earshotlaw01.FracPowers", spec := "fracPowers", unfollowed := true, recurses := true, named := ["internal/strconv.uint64pow10", "math/bits.deBruijn32tab", "math/bits.deBruijn64tab"], apart := false, laid := [("math/bits.deBruijn32tab", laid_math_bits_deBruijn32tab), ("math/bits.deBruijn64tab", laid_math_bits_deBruijn64tab), ("internal/strconv.uint64pow10", laid_internal_strconv_uint64pow10)] }
def FracPowersSaid : Prop := fracPowersRow.holds Tryd.pinned (OpenSpec.ofChange fracPowersSpec)

/-- ITS FALSE NEIGHBOUR: 'it returns false'. Refute it at one input. -/
def fracPowersWrong : ChangeSpec := { name := "fracPowers", fn := fun _ => fun
  | [d1, d2, d3] => { results := [.lit (.bool false)], args := [d1, d2, d3] }
  | _ => none }
def FracPowersWrongFalsely : Prop := fracPowersRow.holds Tryd.pinned (OpenSpec.ofChange fracPowersWrong)

/-- 'earshotlaw01.FracOrdered': WHATEVER THE INPUT: true; the input reads as it did. -/
def fracOrderedSpec : ChangeSpec := { name := "fracOrdered", fn := fun _ => fun
  | [d1, d2, d3] => { results := [.lit (.bool true)], args := [d1, d2, d3] }
  | _ => none }
def fracOrderedRow : OpenClaim := { program := "ytmidncjhlnfojaadoor", sum := "6da6ce5173f76a7b1f3abaaa592791ceb8a1a5841ebd11f0d60bef55de182e05", func := "earshot/earshotlaw01.FracOrdered", spec := "fracOrdered", unfollowed := true, recurses := true, named := ["internal/strconv.uint64pow10", "math/bits.deBruijn32tab", "math/bits.deBruijn64tab"], apart := false, laid := [("math/bits.deBruijn32tab", laid_math_bits_deBruijn32tab), ("math/bits.deBruijn64tab", laid_math_bits_deBruijn64tab), ("internal/strconv.uint64pow10", laid_internal_strconv_uint64pow10)] }
def FracOrderedSaid : Prop := fracOrderedRow.holds Tryd.pinned (OpenSpec.ofChange fracOrderedSpec)

/-- ITS FALSE NEIGHBOUR: 'it returns false'. Refute it at one input. -/
def fracOrderedWrong : ChangeSpec := { name := "fracOrdered", fn := fun _ => fun
  | [d1, d2, d3] => { results := [.lit (.bool false)], args := [d1, d2, d3] }
  | _ => none }
def FracOrderedWrongFalsely : Prop := fracOrderedRow.holds Tryd.pinned (OpenSpec.ofChange fracOrderedWrong)

/-- 'earshotlaw01.FracField': WHATEVER THE INPUT: true; the input reads as it did. -/
def fracFieldSpec : ChangeSpec := { name := "fracField", fn := fun _ => fun
  | [d1, d2, d3] => { results := [.lit (.bool true)], args := [d1, d2, d3] }
  | _ => none }
def fracFieldRow : OpenClaim := { program := "ytmidncjhlnfojaadoor", sum := "6da6ce5173f76a7b1f3abaaa592791ceb8a1a5841ebd11f0d60bef55de182e05", func := "earshot/earshotlaw01.FracField", spec := "fracField", unfollowed := true, recurses := true, named := ["internal/strconv.uint64pow10", "math/bits.deBruijn32tab", "math/bits.deBruijn64tab"], apart := false, laid := [("math/bits.deBruijn32tab", laid_math_bits_deBruijn32tab), ("math/bits.deBruijn64tab", laid_math_bits_deBruijn64tab), ("internal/strconv.uint64pow10", laid_internal_strconv_uint64pow10)] }
def FracFieldSaid : Prop := fracFieldRow.holds Tryd.pinned (OpenSpec.ofChange fracFieldSpec)

/-- ITS FALSE NEIGHBOUR: 'it returns false'. Refute it at one input. -/
def fracFieldWrong : ChangeSpec := { name := "fracField", fn := fun _ => fun
  | [d1, d2, d3] => { results := [.lit (.bool false)], args := [d1, d2, d3] }
  | _ => none }
def FracFieldWrongFalsely : Prop := fracFieldRow.holds Tryd.pinned (OpenSpec.ofChange fracFieldWrong)

/-- 'earshotlaw01.FracOwn': WHATEVER THE INPUT: true; the input reads as it did. -/
def fracOwnSpec : ChangeSpec := { name := "fracOwn", fn := fun _ => fun
  | [d1, d2] => { results := [.lit (.bool true)], args := [d1, d2] }
  | _ => none }
def fracOwnRow : OpenClaim := { program := "ytmidncjhlnfojaadoor", sum := "6da6ce5173f76a7b1f3abaaa592791ceb8a1a5841ebd11f0d60bef55de182e05", func := "earshot/earshotlaw01.FracOwn", spec := "fracOwn", unfollowed := true, recurses := true, named := ["internal/strconv.uint64pow10", "math/bits.deBruijn32tab", "math/bits.deBruijn64tab"], apart := false, laid := [("math/bits.deBruijn32tab", laid_math_bits_deBruijn32tab), ("math/bits.deBruijn64tab", laid_math_bits_deBruijn64tab), ("internal/strconv.uint64pow10", laid_internal_strconv_uint64pow10)] }
def FracOwnSaid : Prop := fracOwnRow.holds Tryd.pinned (OpenSpec.ofChange fracOwnSpec)

/-- ITS FALSE NEIGHBOUR: 'it returns false'. Refute it at one input. -/
def fracOwnWrong : ChangeSpec := { name := "fracOwn", fn := fun _ => fun
  | [d1, d2] => { results := [.lit (.bool false)], args := [d1, d2] }
  | _ => none }
def FracOwnWrongFalsely : Prop := fracOwnRow.holds Tryd.pinned (OpenSpec.ofChange fracOwnWrong)

/-- 'earshotlaw01.FracCanon': WHATEVER THE INPUT: true; the input reads as it did. -/
def fracCanonSpec : ChangeSpec := { name := "fracCanon", fn := fun _ => fun
  | [d] => { results := [.lit (.bool true)], args := [d] }
  | _ => none }
def fracCanonRow : OpenClaim := { program := "ytmidncjhlnfojaadoor", sum := "6da6ce5173f76a7b1f3abaaa592791ceb8a1a5841ebd11f0d60bef55de182e05", func := "earshot/earshotlaw01.FracCanon", spec := "fracCanon", unfollowed := true, recurses := true, named := ["internal/strconv.uint64pow10", "math/bits.deBruijn32tab", "math/bits.deBruijn64tab"], apart := false, laid := [("math/bits.deBruijn32tab", laid_math_bits_deBruijn32tab), ("math/bits.deBruijn64tab", laid_math_bits_deBruijn64tab), ("internal/strconv.uint64pow10", laid_internal_strconv_uint64pow10)] }
def FracCanonSaid : Prop := fracCanonRow.holds Tryd.pinned (OpenSpec.ofChange fracCanonSpec)

/-- ITS FALSE NEIGHBOUR: 'it returns false'. Refute it at one input. -/
def fracCanonWrong : ChangeSpec := { name := "fracCanon", fn := fun _ => fun
  | [d] => { results := [.lit (.bool false)], args := [d] }
  | _ => none }
def FracCanonWrongFalsely : Prop := fracCanonRow.holds Tryd.pinned (OpenSpec.ofChange fracCanonWrong)

/-- 'earshotlaw01.FracMakes': WHATEVER THE INPUT: true; the input reads as it did. -/
def fracMakesSpec : ChangeSpec := { name := "fracMakes", fn := fun _ => fun
  | [d1, d2] => { results := [.lit (.bool true)], args := [d1, d2] }
  | _ => none }
def fracMakesRow : OpenClaim := { program := "ytmidncjhlnfojaadoor", sum := "6da6ce5173f76a7b1f3abaaa592791ceb8a1a5841ebd11f0d60bef55de182e05", func := "earshot/earshotlaw01.FracMakes", spec := "fracMakes", unfollowed := true, recurses := true, named := ["internal/strconv.uint64pow10", "math/bits.deBruijn32tab", "math/bits.deBruijn64tab"], apart := false, laid := [("math/bits.deBruijn32tab", laid_math_bits_deBruijn32tab), ("math/bits.deBruijn64tab", laid_math_bits_deBruijn64tab), ("internal/strconv.uint64pow10", laid_internal_strconv_uint64pow10)] }
def FracMakesSaid : Prop := fracMakesRow.holds Tryd.pinned (OpenSpec.ofChange fracMakesSpec)

/-- ITS FALSE NEIGHBOUR: 'it returns false'. Refute it at one input. -/
def fracMakesWrong : ChangeSpec := { name := "fracMakes", fn := fun _ => fun
  | [d1, d2] => { results := [.lit (.bool false)], args := [d1, d2] }
  | _ => none }
def FracMakesWrongFalsely : Prop := fracMakesRow.holds Tryd.pinned (OpenSpec.ofChange fracMakesWrong)

/-- 'earshotlaw01.FracWhole': WHATEVER THE INPUT: true; the input reads as it did. -/
def fracWholeSpec : ChangeSpec := { name := "fracWhole", fn := fun _ => fun
  | [d] => { results := [.lit (.bool true)], args := [d] }
  | _ => none }
def fracWholeRow : OpenClaim := { program := "ytmidncjhlnfojaadoor", sum := "6da6ce5173f76a7b1f3abaaa592791ceb8a1a5841ebd11f0d60bef55de182e05", func := "earshot/earshotlaw01.FracWhole", spec := "fracWhole", unfollowed := true, recurses := true, named := ["internal/strconv.uint64pow10", "math/bits.deBruijn32tab", "math/bits.deBruijn64tab"], apart := false, laid := [("math/bits.deBruijn32tab", laid_math_bits_deBruijn32tab), ("math/bits.deBruijn64tab", laid_math_bits_deBruijn64tab), ("internal/strconv.uint64pow10", laid_internal_strconv_uint64pow10)] }
def FracWholeSaid : Prop := fracWholeRow.holds Tryd.pinned (OpenSpec.ofChange fracWholeSpec)

/-- ITS FALSE NEIGHBOUR: 'it returns false'. Refute it at one input. -/
def fracWholeWrong : ChangeSpec := { name := "fracWhole", fn := fun _ => fun
  | [d] => { results := [.lit (.bool false)], args := [d] }
  | _ => none }
def FracWholeWrongFalsely : Prop := fracWholeRow.holds Tryd.pinned (OpenSpec.ofChange fracWholeWrong)

/-- 'earshotlaw01.FracLists': WHATEVER THE INPUT: true; the input reads as it did. -/
def fracListsSpec : ChangeSpec := { name := "fracLists", fn := fun _ => fun
  | [d] => { results := [.lit (.bool true)], args := [d] }
  | _ => none }
def fracListsRow : OpenClaim := { program := "ytmidncjhlnfojaadoor", sum := "6da6ce5173f76a7b1f3abaaa592791ceb8a1a5841ebd11f0d60bef55de182e05", func := "earshot/earshotlaw01.FracLists", spec := "fracLists", unfollowed := true, recurses := true, named := ["internal/strconv.uint64pow10", "math/bits.deBruijn32tab", "math/bits.deBruijn64tab"], apart := false, laid := [("math/bits.deBruijn32tab", laid_math_bits_deBruijn32tab), ("math/bits.deBruijn64tab", laid_math_bits_deBruijn64tab), ("internal/strconv.uint64pow10", laid_internal_strconv_uint64pow10)] }
def FracListsSaid : Prop := fracListsRow.holds Tryd.pinned (OpenSpec.ofChange fracListsSpec)

/-- ITS FALSE NEIGHBOUR: 'it returns false'. Refute it at one input. -/
def fracListsWrong : ChangeSpec := { name := "fracLists", fn := fun _ => fun
  | [d] => { results := [.lit (.bool false)], args := [d] }
  | _ => none }
def FracListsWrongFalsely : Prop := fracListsRow.holds Tryd.pinned (OpenSpec.ofChange fracListsWrong)

/-- 'earshotlaw01.FracNormal': WHATEVER THE INPUT: true; the input reads as it did. -/
def fracNormalSpec : ChangeSpec := { name := "fracNormal", fn := fun _ => fun
  | [d] => { results := [.lit (.bool true)], args := [d] }
  | _ => none }
def fracNormalRow : OpenClaim := { program := "ytmidncjhlnfojaadoor", sum := "6da6ce5173f76a7b1f3abaaa592791ceb8a1a5841ebd11f0d60bef55de182e05", func := "earshot/earshotlaw01.FracNormal", spec := "fracNormal", unfollowed := true, recurses := true, named := ["internal/strconv.uint64pow10", "math/bits.deBruijn32tab", "math/bits.deBruijn64tab"], apart := false, laid := [("math/bits.deBruijn32tab", laid_math_bits_deBruijn32tab), ("math/bits.deBruijn64tab", laid_math_bits_deBruijn64tab), ("internal/strconv.uint64pow10", laid_internal_strconv_uint64pow10)] }
def FracNormalSaid : Prop := fracNormalRow.holds Tryd.pinned (OpenSpec.ofChange fracNormalSpec)

/-- ITS FALSE NEIGHBOUR: 'it returns false'. Refute it at one input. -/
def fracNormalWrong : ChangeSpec := { name := "fracNormal", fn := fun _ => fun
  | [d] => { results := [.lit (.bool false)], args := [d] }
  | _ => none }
def FracNormalWrongFalsely : Prop := fracNormalRow.holds Tryd.pinned (OpenSpec.ofChange fracNormalWrong)

/- THE SECOND FORM. 'bulk': how many values and letters a reading holds, each counted each time it is reached (what is shared counts as often as it is met; a slice's spare places count too). A statement '..UptoSaid' is the law's where the arguments, and the package variables that the reading takes, are together of bulk at most 1048576: NARROWER than '..Said'. Prove '..Said' where nothing that the law and all that it calls make is longer than what came in: it says more and counts as full. Else prove '..UptoSaid'. A law counts once. -/
mutual
def uptoBulk {H : Type} : DataW H → Nat
  | .lit (.string bytes) => bytes.length + 1
  | .lit _ => 1
  | .nil => 1
  | .ptr d => uptoBulk d + 1
  | .slice elems spare => uptoBulkAll elems + uptoBulkAll spare + 1
  | .agg parts => uptoBulkAll parts + 1
  | .iface _ d => uptoBulk d + 1
  | .map entries => uptoBulkEntries entries + 1
  | .held _ => 1
def uptoBulkAll {H : Type} : List (DataW H) → Nat
  | [] => 0
  | d :: r => uptoBulk d + uptoBulkAll r
def uptoBulkEntries {H : Type} : List (Lit × DataW H) → Nat
  | [] => 0
  | x :: r => uptoBulkEntry x + uptoBulkEntries r
def uptoBulkEntry {H : Type} : Lit × DataW H → Nat
  | (.string bytes, d) => bytes.length + uptoBulk d + 1
  | (_, d) => uptoBulk d + 1
 end
def uptoSmall : (H : Type) → List (DataW H) → Bool := fun _ ds => decide (uptoBulkAll ds ≤ 1048576)
def OpenSpec.upto (s : _root_.Go.ChangeSpec) : _root_.Go.OpenSpec := { _root_.Go.OpenSpec.ofChange s with cond := some uptoSmall }

/-- 'earshotlaw01.FracPows', WHERE WHAT IT READS IS OF BULK AT MOST 1048576: true; the input reads as it did. -/
def fracPowsUptoRow : OpenClaim := { program := "ytmidncjhlnfojaadoor", sum := "6da6ce5173f76a7b1f3abaaa592791ceb8a1a5841ebd11f0d60bef55de182e05", func := "earshot/earshotlaw01.FracPows", spec := "fracPows", unfollowed := true, recurses := true, named := ["internal/strconv.uint64pow10", "math/bits.deBruijn32tab", "math/bits.deBruijn64tab"], apart := false, laid := [("math/bits.deBruijn32tab", laid_math_bits_deBruijn32tab), ("math/bits.deBruijn64tab", laid_math_bits_deBruijn64tab), ("internal/strconv.uint64pow10", laid_internal_strconv_uint64pow10)], narrowed := true }
def FracPowsUptoSaid : Prop := fracPowsUptoRow.holds Tryd.pinned (OpenSpec.upto fracPowsSpec)

/-- 'earshotlaw01.FracFloors', WHERE WHAT IT READS IS OF BULK AT MOST 1048576: true; the input reads as it did. -/
def fracFloorsUptoRow : OpenClaim := { program := "ytmidncjhlnfojaadoor", sum := "6da6ce5173f76a7b1f3abaaa592791ceb8a1a5841ebd11f0d60bef55de182e05", func := "earshot/earshotlaw01.FracFloors", spec := "fracFloors", unfollowed := true, recurses := true, named := ["internal/strconv.uint64pow10", "math/bits.deBruijn32tab", "math/bits.deBruijn64tab"], apart := false, laid := [("math/bits.deBruijn32tab", laid_math_bits_deBruijn32tab), ("math/bits.deBruijn64tab", laid_math_bits_deBruijn64tab), ("internal/strconv.uint64pow10", laid_internal_strconv_uint64pow10)], narrowed := true }
def FracFloorsUptoSaid : Prop := fracFloorsUptoRow.holds Tryd.pinned (OpenSpec.upto fracFloorsSpec)

/-- 'earshotlaw01.FracTexts', WHERE WHAT IT READS IS OF BULK AT MOST 1048576: true; the input reads as it did. -/
def fracTextsUptoRow : OpenClaim := { program := "ytmidncjhlnfojaadoor", sum := "6da6ce5173f76a7b1f3abaaa592791ceb8a1a5841ebd11f0d60bef55de182e05", func := "earshot/earshotlaw01.FracTexts", spec := "fracTexts", unfollowed := true, recurses := true, named := ["internal/strconv.uint64pow10", "math/bits.deBruijn32tab", "math/bits.deBruijn64tab"], apart := false, laid := [("math/bits.deBruijn32tab", laid_math_bits_deBruijn32tab), ("math/bits.deBruijn64tab", laid_math_bits_deBruijn64tab), ("internal/strconv.uint64pow10", laid_internal_strconv_uint64pow10)], narrowed := true }
def FracTextsUptoSaid : Prop := fracTextsUptoRow.holds Tryd.pinned (OpenSpec.upto fracTextsSpec)

/-- 'earshotlaw01.FracDecimals', WHERE WHAT IT READS IS OF BULK AT MOST 1048576: true; the input reads as it did. -/
def fracDecimalsUptoRow : OpenClaim := { program := "ytmidncjhlnfojaadoor", sum := "6da6ce5173f76a7b1f3abaaa592791ceb8a1a5841ebd11f0d60bef55de182e05", func := "earshot/earshotlaw01.FracDecimals", spec := "fracDecimals", unfollowed := true, recurses := true, named := ["internal/strconv.uint64pow10", "math/bits.deBruijn32tab", "math/bits.deBruijn64tab"], apart := false, laid := [("math/bits.deBruijn32tab", laid_math_bits_deBruijn32tab), ("math/bits.deBruijn64tab", laid_math_bits_deBruijn64tab), ("internal/strconv.uint64pow10", laid_internal_strconv_uint64pow10)], narrowed := true }
def FracDecimalsUptoSaid : Prop := fracDecimalsUptoRow.holds Tryd.pinned (OpenSpec.upto fracDecimalsSpec)

/-- 'earshotlaw01.FracParses', WHERE WHAT IT READS IS OF BULK AT MOST 1048576: true; the input reads as it did. -/
def fracParsesUptoRow : OpenClaim := { program := "ytmidncjhlnfojaadoor", sum := "6da6ce5173f76a7b1f3abaaa592791ceb8a1a5841ebd11f0d60bef55de182e05", func := "earshot/earshotlaw01.FracParses", spec := "fracParses", unfollowed := true, recurses := true, named := ["internal/strconv.uint64pow10", "math/bits.deBruijn32tab", "math/bits.deBruijn64tab"], apart := false, laid := [("math/bits.deBruijn32tab", laid_math_bits_deBruijn32tab), ("math/bits.deBruijn64tab", laid_math_bits_deBruijn64tab), ("internal/strconv.uint64pow10", laid_internal_strconv_uint64pow10)], narrowed := true }
def FracParsesUptoSaid : Prop := fracParsesUptoRow.holds Tryd.pinned (OpenSpec.upto fracParsesSpec)

/-- 'earshotlaw01.FracOrders', WHERE WHAT IT READS IS OF BULK AT MOST 1048576: true; the input reads as it did. -/
def fracOrdersUptoRow : OpenClaim := { program := "ytmidncjhlnfojaadoor", sum := "6da6ce5173f76a7b1f3abaaa592791ceb8a1a5841ebd11f0d60bef55de182e05", func := "earshot/earshotlaw01.FracOrders", spec := "fracOrders", unfollowed := true, recurses := true, named := ["internal/strconv.uint64pow10", "math/bits.deBruijn32tab", "math/bits.deBruijn64tab"], apart := false, laid := [("math/bits.deBruijn32tab", laid_math_bits_deBruijn32tab), ("math/bits.deBruijn64tab", laid_math_bits_deBruijn64tab), ("internal/strconv.uint64pow10", laid_internal_strconv_uint64pow10)], narrowed := true }
def FracOrdersUptoSaid : Prop := fracOrdersUptoRow.holds Tryd.pinned (OpenSpec.upto fracOrdersSpec)

/-- 'earshotlaw01.FracAdds', WHERE WHAT IT READS IS OF BULK AT MOST 1048576: true; the input reads as it did. -/
def fracAddsUptoRow : OpenClaim := { program := "ytmidncjhlnfojaadoor", sum := "6da6ce5173f76a7b1f3abaaa592791ceb8a1a5841ebd11f0d60bef55de182e05", func := "earshot/earshotlaw01.FracAdds", spec := "fracAdds", unfollowed := true, recurses := true, named := ["internal/strconv.uint64pow10", "math/bits.deBruijn32tab", "math/bits.deBruijn64tab"], apart := false, laid := [("math/bits.deBruijn32tab", laid_math_bits_deBruijn32tab), ("math/bits.deBruijn64tab", laid_math_bits_deBruijn64tab), ("internal/strconv.uint64pow10", laid_internal_strconv_uint64pow10)], narrowed := true }
def FracAddsUptoSaid : Prop := fracAddsUptoRow.holds Tryd.pinned (OpenSpec.upto fracAddsSpec)

/-- 'earshotlaw01.FracMuls', WHERE WHAT IT READS IS OF BULK AT MOST 1048576: true; the input reads as it did. -/
def fracMulsUptoRow : OpenClaim := { program := "ytmidncjhlnfojaadoor", sum := "6da6ce5173f76a7b1f3abaaa592791ceb8a1a5841ebd11f0d60bef55de182e05", func := "earshot/earshotlaw01.FracMuls", spec := "fracMuls", unfollowed := true, recurses := true, named := ["internal/strconv.uint64pow10", "math/bits.deBruijn32tab", "math/bits.deBruijn64tab"], apart := false, laid := [("math/bits.deBruijn32tab", laid_math_bits_deBruijn32tab), ("math/bits.deBruijn64tab", laid_math_bits_deBruijn64tab), ("internal/strconv.uint64pow10", laid_internal_strconv_uint64pow10)], narrowed := true }
def FracMulsUptoSaid : Prop := fracMulsUptoRow.holds Tryd.pinned (OpenSpec.upto fracMulsSpec)

/-- 'earshotlaw01.FracPowers', WHERE WHAT IT READS IS OF BULK AT MOST 1048576: true; the input reads as it did. -/
def fracPowersUptoRow : OpenClaim := { program := "ytmidncjhlnfojaadoor", sum := "6da6ce5173f76a7b1f3abaaa592791ceb8a1a5841ebd11f0d60bef55de182e05", func := "earshot/earshotlaw01.FracPowers", spec := "fracPowers", unfollowed := true, recurses := true, named := ["internal/strconv.uint64pow10", "math/bits.deBruijn32tab", "math/bits.deBruijn64tab"], apart := false, laid := [("math/bits.deBruijn32tab", laid_math_bits_deBruijn32tab), ("math/bits.deBruijn64tab", laid_math_bits_deBruijn64tab), ("internal/strconv.uint64pow10", laid_internal_strconv_uint64pow10)], narrowed := true }
def FracPowersUptoSaid : Prop := fracPowersUptoRow.holds Tryd.pinned (OpenSpec.upto fracPowersSpec)

/-- 'earshotlaw01.FracOrdered', WHERE WHAT IT READS IS OF BULK AT MOST 1048576: true; the input reads as it did. -/
def fracOrderedUptoRow : OpenClaim := { program := "ytmidncjhlnfojaadoor", sum := "6da6ce5173f76a7b1f3abaaa592791ceb8a1a5841ebd11f0d60bef55de182e05", func := "earshot/earshotlaw01.FracOrdered", spec := "fracOrdered", unfollowed := true, recurses := true, named := ["internal/strconv.uint64pow10", "math/bits.deBruijn32tab", "math/bits.deBruijn64tab"], apart := false, laid := [("math/bits.deBruijn32tab", laid_math_bits_deBruijn32tab), ("math/bits.deBruijn64tab", laid_math_bits_deBruijn64tab), ("internal/strconv.uint64pow10", laid_internal_strconv_uint64pow10)], narrowed := true }
def FracOrderedUptoSaid : Prop := fracOrderedUptoRow.holds Tryd.pinned (OpenSpec.upto fracOrderedSpec)

/-- 'earshotlaw01.FracField', WHERE WHAT IT READS IS OF BULK AT MOST 1048576: true; the input reads as it did. -/
def fracFieldUptoRow : OpenClaim := { program := "ytmidncjhlnfojaadoor", sum := "6da6ce5173f76a7b1f3abaaa592791ceb8a1a5841ebd11f0d60bef55de182e05", func := "earshot/earshotlaw01.FracField", spec := "fracField", unfollowed := true, recurses := true, named := ["internal/strconv.uint64pow10", "math/bits.deBruijn32tab", "math/bits.deBruijn64tab"], apart := false, laid := [("math/bits.deBruijn32tab", laid_math_bits_deBruijn32tab), ("math/bits.deBruijn64tab", laid_math_bits_deBruijn64tab), ("internal/strconv.uint64pow10", laid_internal_strconv_uint64pow10)], narrowed := true }
def FracFieldUptoSaid : Prop := fracFieldUptoRow.holds Tryd.pinned (OpenSpec.upto fracFieldSpec)

/-- 'earshotlaw01.FracOwn', WHERE WHAT IT READS IS OF BULK AT MOST 1048576: true; the input reads as it did. -/
def fracOwnUptoRow : OpenClaim := { program := "ytmidncjhlnfojaadoor", sum := "6da6ce5173f76a7b1f3abaaa592791ceb8a1a5841ebd11f0d60bef55de182e05", func := "earshot/earshotlaw01.FracOwn", spec := "fracOwn", unfollowed := true, recurses := true, named := ["internal/strconv.uint64pow10", "math/bits.deBruijn32tab", "math/bits.deBruijn64tab"], apart := false, laid := [("math/bits.deBruijn32tab", laid_math_bits_deBruijn32tab), ("math/bits.deBruijn64tab", laid_math_bits_deBruijn64tab), ("internal/strconv.uint64pow10", laid_internal_strconv_uint64pow10)], narrowed := true }
def FracOwnUptoSaid : Prop := fracOwnUptoRow.holds Tryd.pinned (OpenSpec.upto fracOwnSpec)

/-- 'earshotlaw01.FracCanon', WHERE WHAT IT READS IS OF BULK AT MOST 1048576: true; the input reads as it did. -/
def fracCanonUptoRow : OpenClaim := { program := "ytmidncjhlnfojaadoor", sum := "6da6ce5173f76a7b1f3abaaa592791ceb8a1a5841ebd11f0d60bef55de182e05", func := "earshot/earshotlaw01.FracCanon", spec := "fracCanon", unfollowed := true, recurses := true, named := ["internal/strconv.uint64pow10", "math/bits.deBruijn32tab", "math/bits.deBruijn64tab"], apart := false, laid := [("math/bits.deBruijn32tab", laid_math_bits_deBruijn32tab), ("math/bits.deBruijn64tab", laid_math_bits_deBruijn64tab), ("internal/strconv.uint64pow10", laid_internal_strconv_uint64pow10)], narrowed := true }
def FracCanonUptoSaid : Prop := fracCanonUptoRow.holds Tryd.pinned (OpenSpec.upto fracCanonSpec)

/-- 'earshotlaw01.FracMakes', WHERE WHAT IT READS IS OF BULK AT MOST 1048576: true; the input reads as it did. -/
def fracMakesUptoRow : OpenClaim := { program := "ytmidncjhlnfojaadoor", sum := "6da6ce5173f76a7b1f3abaaa592791ceb8a1a5841ebd11f0d60bef55de182e05", func := "earshot/earshotlaw01.FracMakes", spec := "fracMakes", unfollowed := true, recurses := true, named := ["internal/strconv.uint64pow10", "math/bits.deBruijn32tab", "math/bits.deBruijn64tab"], apart := false, laid := [("math/bits.deBruijn32tab", laid_math_bits_deBruijn32tab), ("math/bits.deBruijn64tab", laid_math_bits_deBruijn64tab), ("internal/strconv.uint64pow10", laid_internal_strconv_uint64pow10)], narrowed := true }
def FracMakesUptoSaid : Prop := fracMakesUptoRow.holds Tryd.pinned (OpenSpec.upto fracMakesSpec)

/-- 'earshotlaw01.FracWhole', WHERE WHAT IT READS IS OF BULK AT MOST 1048576: true; the input reads as it did. -/
def fracWholeUptoRow : OpenClaim := { program := "ytmidncjhlnfojaadoor", sum := "6da6ce5173f76a7b1f3abaaa592791ceb8a1a5841ebd11f0d60bef55de182e05", func := "earshot/earshotlaw01.FracWhole", spec := "fracWhole", unfollowed := true, recurses := true, named := ["internal/strconv.uint64pow10", "math/bits.deBruijn32tab", "math/bits.deBruijn64tab"], apart := false, laid := [("math/bits.deBruijn32tab", laid_math_bits_deBruijn32tab), ("math/bits.deBruijn64tab", laid_math_bits_deBruijn64tab), ("internal/strconv.uint64pow10", laid_internal_strconv_uint64pow10)], narrowed := true }
def FracWholeUptoSaid : Prop := fracWholeUptoRow.holds Tryd.pinned (OpenSpec.upto fracWholeSpec)

/-- 'earshotlaw01.FracLists', WHERE WHAT IT READS IS OF BULK AT MOST 1048576: true; the input reads as it did. -/
def fracListsUptoRow : OpenClaim := { program := "ytmidncjhlnfojaadoor", sum := "6da6ce5173f76a7b1f3abaaa592791ceb8a1a5841ebd11f0d60bef55de182e05", func := "earshot/earshotlaw01.FracLists", spec := "fracLists", unfollowed := true, recurses := true, named := ["internal/strconv.uint64pow10", "math/bits.deBruijn32tab", "math/bits.deBruijn64tab"], apart := false, laid := [("math/bits.deBruijn32tab", laid_math_bits_deBruijn32tab), ("math/bits.deBruijn64tab", laid_math_bits_deBruijn64tab), ("internal/strconv.uint64pow10", laid_internal_strconv_uint64pow10)], narrowed := true }
def FracListsUptoSaid : Prop := fracListsUptoRow.holds Tryd.pinned (OpenSpec.upto fracListsSpec)

/-- 'earshotlaw01.FracNormal', WHERE WHAT IT READS IS OF BULK AT MOST 1048576: true; the input reads as it did. -/
def fracNormalUptoRow : OpenClaim := { program := "ytmidncjhlnfojaadoor", sum := "6da6ce5173f76a7b1f3abaaa592791ceb8a1a5841ebd11f0d60bef55de182e05", func := "earshot/earshotlaw01.FracNormal", spec := "fracNormal", unfollowed := true, recurses := true, named := ["internal/strconv.uint64pow10", "math/bits.deBruijn32tab", "math/bits.deBruijn64tab"], apart := false, laid := [("math/bits.deBruijn32tab", laid_math_bits_deBruijn32tab), ("math/bits.deBruijn64tab", laid_math_bits_deBruijn64tab), ("internal/strconv.uint64pow10", laid_internal_strconv_uint64pow10)], narrowed := true }
def FracNormalUptoSaid : Prop := fracNormalUptoRow.holds Tryd.pinned (OpenSpec.upto fracNormalSpec)

end Rows
end Go.Proofs.YtmidncjhlnfojaaDoor
