/-
  DERIVED. GIVEN WITH THE SEED: THE CARDS: each row of YtabmlonaohfncaaDoorRows.lean that lists a variable, with what it lists TIED to the program's text (the seventh form; the later family's looks); each row that meets fmt, with fmt's text TOLD by the authors' own Lean function (tested against real Go, not proved from fmt's source: count such statements apart). THE CARD IS WHAT COUNTS. Prove the row's statement (the work); the ties are given (YtabmlonaohfncaaDoorTie.lean); close each card by the builder's one call (the guide's Derived/Test/ToyasCard.lean, 'card_holds'). Laid BY PROGRAM, IN A SANDBOX (cutbox-door.mjs). By AI agents, Wed Nov 11 2026. No macro, syntax, notation, axiom, sorry.
-/
import Derived.Test.YtabmlonaohfncaaDoorRows
import GoSem.ClaimSeven
namespace Go.Proofs.YtabmlonaohfncaaDoor
namespace Rows

/-- THE TIED CARD OF 'earshottop.TopClipped'. -/
def topClippedCard : Claim7 := { stood := { row := topClippedRow, standIns := [], harness := (true, "597e836a2ff2520abe4f08fc8ddf98b23acc0fbaa6e645853d073d96582525c8"), looks := false }, kinds := [], alts := [], laidByText := true, laidKinds := [.data], laidTests := true, laidLooks := .later }
def TopClippedCardSaid : Prop := Claim7.holds Tryd.pinned (.plain (OpenSpec.ofChange topClippedSpec)) topClippedCard

/-- THE TIED CARD OF 'earshottop.TopStored'. -/
def topStoredCard : Claim7 := { stood := { row := topStoredRow, standIns := [], harness := (true, "597e836a2ff2520abe4f08fc8ddf98b23acc0fbaa6e645853d073d96582525c8"), looks := false }, kinds := [], alts := [], laidByText := true, laidKinds := [.data], laidTests := true, laidLooks := .later }
def TopStoredCardSaid : Prop := Claim7.holds Tryd.pinned (.plain (OpenSpec.ofChange topStoredSpec)) topStoredCard

/-- THE SECOND FORM's CARD OF 'earshottop.TopClipped'. -/
def topClippedUptoCard : Claim7 := { stood := { row := topClippedUptoRow, standIns := [], harness := (true, "597e836a2ff2520abe4f08fc8ddf98b23acc0fbaa6e645853d073d96582525c8"), looks := false }, kinds := [], alts := [], laidByText := true, laidKinds := [.data], laidTests := true, laidLooks := .later }
def TopClippedUptoCardSaid : Prop := Claim7.holds Tryd.pinned (.plain (OpenSpec.upto topClippedSpec)) topClippedUptoCard

/-- THE SECOND FORM's CARD OF 'earshottop.TopStored'. -/
def topStoredUptoCard : Claim7 := { stood := { row := topStoredUptoRow, standIns := [], harness := (true, "597e836a2ff2520abe4f08fc8ddf98b23acc0fbaa6e645853d073d96582525c8"), looks := false }, kinds := [], alts := [], laidByText := true, laidKinds := [.data], laidTests := true, laidLooks := .later }
def TopStoredUptoCardSaid : Prop := Claim7.holds Tryd.pinned (.plain (OpenSpec.upto topStoredSpec)) topStoredUptoCard
end Rows
end Go.Proofs.YtabmlonaohfncaaDoor
