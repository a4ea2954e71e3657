/-
  DERIVED. GIVEN WITH THE SEED: THE CARDS: each row of YtmidncjhlnfojaaDoorRows.lean that lists a variable, with what it lists TIED to the program's text (the seventh form; the later family's looks); each row that meets fmt, with fmt's text TOLD by the authors' own Lean function (tested against real Go, not proved from fmt's source: count such statements apart). THE CARD IS WHAT COUNTS. Prove the row's statement (the work); the ties are given (YtmidncjhlnfojaaDoorTie.lean); close each card by the builder's one call (the guide's Derived/Test/ToyasCard.lean, 'card_holds'). Laid BY PROGRAM, IN A SANDBOX (cutbox-door.mjs). By AI agents, Wed Nov 11 2026. No macro, syntax, notation, axiom, sorry.
-/
import Derived.Test.YtmidncjhlnfojaaDoorRows
import GoSem.ClaimSeven
namespace Go.Proofs.YtmidncjhlnfojaaDoor
namespace Rows

/-- THE TIED CARD OF 'earshotlaw01.FracPows'. -/
def fracPowsCard : Claim7 := { stood := { row := fracPowsRow, standIns := [], harness := (true, "120af3a17219b6948b7247e82fea1e21c238fa7939f54a46d6ad01bbc602bb58"), looks := false }, kinds := [], alts := [], laidByText := true, laidKinds := [.data, .data, .data], laidTests := true, laidLooks := .later }
def FracPowsCardSaid : Prop := Claim7.holds Tryd.pinned (.plain (OpenSpec.ofChange fracPowsSpec)) fracPowsCard

/-- THE TIED CARD OF 'earshotlaw01.FracFloors'. -/
def fracFloorsCard : Claim7 := { stood := { row := fracFloorsRow, standIns := [], harness := (true, "120af3a17219b6948b7247e82fea1e21c238fa7939f54a46d6ad01bbc602bb58"), looks := false }, kinds := [], alts := [], laidByText := true, laidKinds := [.data, .data, .data], laidTests := true, laidLooks := .later }
def FracFloorsCardSaid : Prop := Claim7.holds Tryd.pinned (.plain (OpenSpec.ofChange fracFloorsSpec)) fracFloorsCard

/-- THE TIED CARD OF 'earshotlaw01.FracTexts'. -/
def fracTextsCard : Claim7 := { stood := { row := fracTextsRow, standIns := [], harness := (true, "120af3a17219b6948b7247e82fea1e21c238fa7939f54a46d6ad01bbc602bb58"), looks := false }, kinds := [], alts := [], laidByText := true, laidKinds := [.data, .data, .data], laidTests := true, laidLooks := .later }
def FracTextsCardSaid : Prop := Claim7.holds Tryd.pinned (.plain (OpenSpec.ofChange fracTextsSpec)) fracTextsCard

/-- THE TIED CARD OF 'earshotlaw01.FracDecimals'. -/
def fracDecimalsCard : Claim7 := { stood := { row := fracDecimalsRow, standIns := [], harness := (true, "120af3a17219b6948b7247e82fea1e21c238fa7939f54a46d6ad01bbc602bb58"), looks := false }, kinds := [], alts := [], laidByText := true, laidKinds := [.data, .data, .data], laidTests := true, laidLooks := .later }
def FracDecimalsCardSaid : Prop := Claim7.holds Tryd.pinned (.plain (OpenSpec.ofChange fracDecimalsSpec)) fracDecimalsCard

/-- THE TIED CARD OF 'earshotlaw01.FracParses'. -/
def fracParsesCard : Claim7 := { stood := { row := fracParsesRow, standIns := [], harness := (true, "120af3a17219b6948b7247e82fea1e21c238fa7939f54a46d6ad01bbc602bb58"), looks := false }, kinds := [], alts := [], laidByText := true, laidKinds := [.data, .data, .data], laidTests := true, laidLooks := .later }
def FracParsesCardSaid : Prop := Claim7.holds Tryd.pinned (.plain (OpenSpec.ofChange fracParsesSpec)) fracParsesCard

/-- THE TIED CARD OF 'earshotlaw01.FracOrders'. -/
def fracOrdersCard : Claim7 := { stood := { row := fracOrdersRow, standIns := [], harness := (true, "120af3a17219b6948b7247e82fea1e21c238fa7939f54a46d6ad01bbc602bb58"), looks := false }, kinds := [], alts := [], laidByText := true, laidKinds := [.data, .data, .data], laidTests := true, laidLooks := .later }
def FracOrdersCardSaid : Prop := Claim7.holds Tryd.pinned (.plain (OpenSpec.ofChange fracOrdersSpec)) fracOrdersCard

/-- THE TIED CARD OF 'earshotlaw01.FracAdds'. -/
def fracAddsCard : Claim7 := { stood := { row := fracAddsRow, standIns := [], harness := (true, "120af3a17219b6948b7247e82fea1e21c238fa7939f54a46d6ad01bbc602bb58"), looks := false }, kinds := [], alts := [], laidByText := true, laidKinds := [.data, .data, .data], laidTests := true, laidLooks := .later }
def FracAddsCardSaid : Prop := Claim7.holds Tryd.pinned (.plain (OpenSpec.ofChange fracAddsSpec)) fracAddsCard

/-- THE TIED CARD OF 'earshotlaw01.FracMuls'. -/
def fracMulsCard : Claim7 := { stood := { row := fracMulsRow, standIns := [], harness := (true, "120af3a17219b6948b7247e82fea1e21c238fa7939f54a46d6ad01bbc602bb58"), looks := false }, kinds := [], alts := [], laidByText := true, laidKinds := [.data, .data, .data], laidTests := true, laidLooks := .later }
def FracMulsCardSaid : Prop := Claim7.holds Tryd.pinned (.plain (OpenSpec.ofChange fracMulsSpec)) fracMulsCard

/-- THE TIED CARD OF 'earshotlaw01.FracPowers'. -/
def fracPowersCard : Claim7 := { stood := { row := fracPowersRow, standIns := [], harness := (true, "120af3a17219b6948b7247e82fea1e21c238fa7939f54a46d6ad01bbc602bb58"), looks := false }, kinds := [], alts := [], laidByText := true, laidKinds := [.data, .data, .data], laidTests := true, laidLooks := .later }
def FracPowersCardSaid : Prop := Claim7.holds Tryd.pinned (.plain (OpenSpec.ofChange fracPowersSpec)) fracPowersCard

/-- THE TIED CARD OF 'earshotlaw01.FracOrdered'. -/
def fracOrderedCard : Claim7 := { stood := { row := fracOrderedRow, standIns := [], harness := (true, "120af3a17219b6948b7247e82fea1e21c238fa7939f54a46d6ad01bbc602bb58"), looks := false }, kinds := [], alts := [], laidByText := true, laidKinds := [.data, .data, .data], laidTests := true, laidLooks := .later }
def FracOrderedCardSaid : Prop := Claim7.holds Tryd.pinned (.plain (OpenSpec.ofChange fracOrderedSpec)) fracOrderedCard

/-- THE TIED CARD OF 'earshotlaw01.FracField'. -/
def fracFieldCard : Claim7 := { stood := { row := fracFieldRow, standIns := [], harness := (true, "120af3a17219b6948b7247e82fea1e21c238fa7939f54a46d6ad01bbc602bb58"), looks := false }, kinds := [], alts := [], laidByText := true, laidKinds := [.data, .data, .data], laidTests := true, laidLooks := .later }
def FracFieldCardSaid : Prop := Claim7.holds Tryd.pinned (.plain (OpenSpec.ofChange fracFieldSpec)) fracFieldCard

/-- THE TIED CARD OF 'earshotlaw01.FracOwn'. -/
def fracOwnCard : Claim7 := { stood := { row := fracOwnRow, standIns := [], harness := (true, "120af3a17219b6948b7247e82fea1e21c238fa7939f54a46d6ad01bbc602bb58"), looks := false }, kinds := [], alts := [], laidByText := true, laidKinds := [.data, .data, .data], laidTests := true, laidLooks := .later }
def FracOwnCardSaid : Prop := Claim7.holds Tryd.pinned (.plain (OpenSpec.ofChange fracOwnSpec)) fracOwnCard

/-- THE TIED CARD OF 'earshotlaw01.FracCanon'. -/
def fracCanonCard : Claim7 := { stood := { row := fracCanonRow, standIns := [], harness := (true, "120af3a17219b6948b7247e82fea1e21c238fa7939f54a46d6ad01bbc602bb58"), looks := false }, kinds := [], alts := [], laidByText := true, laidKinds := [.data, .data, .data], laidTests := true, laidLooks := .later }
def FracCanonCardSaid : Prop := Claim7.holds Tryd.pinned (.plain (OpenSpec.ofChange fracCanonSpec)) fracCanonCard

/-- THE TIED CARD OF 'earshotlaw01.FracMakes'. -/
def fracMakesCard : Claim7 := { stood := { row := fracMakesRow, standIns := [], harness := (true, "120af3a17219b6948b7247e82fea1e21c238fa7939f54a46d6ad01bbc602bb58"), looks := false }, kinds := [], alts := [], laidByText := true, laidKinds := [.data, .data, .data], laidTests := true, laidLooks := .later }
def FracMakesCardSaid : Prop := Claim7.holds Tryd.pinned (.plain (OpenSpec.ofChange fracMakesSpec)) fracMakesCard

/-- THE TIED CARD OF 'earshotlaw01.FracWhole'. -/
def fracWholeCard : Claim7 := { stood := { row := fracWholeRow, standIns := [], harness := (true, "120af3a17219b6948b7247e82fea1e21c238fa7939f54a46d6ad01bbc602bb58"), looks := false }, kinds := [], alts := [], laidByText := true, laidKinds := [.data, .data, .data], laidTests := true, laidLooks := .later }
def FracWholeCardSaid : Prop := Claim7.holds Tryd.pinned (.plain (OpenSpec.ofChange fracWholeSpec)) fracWholeCard

/-- THE TIED CARD OF 'earshotlaw01.FracLists'. -/
def fracListsCard : Claim7 := { stood := { row := fracListsRow, standIns := [], harness := (true, "120af3a17219b6948b7247e82fea1e21c238fa7939f54a46d6ad01bbc602bb58"), looks := false }, kinds := [], alts := [], laidByText := true, laidKinds := [.data, .data, .data], laidTests := true, laidLooks := .later }
def FracListsCardSaid : Prop := Claim7.holds Tryd.pinned (.plain (OpenSpec.ofChange fracListsSpec)) fracListsCard

/-- THE TIED CARD OF 'earshotlaw01.FracNormal'. -/
def fracNormalCard : Claim7 := { stood := { row := fracNormalRow, standIns := [], harness := (true, "120af3a17219b6948b7247e82fea1e21c238fa7939f54a46d6ad01bbc602bb58"), looks := false }, kinds := [], alts := [], laidByText := true, laidKinds := [.data, .data, .data], laidTests := true, laidLooks := .later }
def FracNormalCardSaid : Prop := Claim7.holds Tryd.pinned (.plain (OpenSpec.ofChange fracNormalSpec)) fracNormalCard

/-- THE SECOND FORM's CARD OF 'earshotlaw01.FracPows'. -/
def fracPowsUptoCard : Claim7 := { stood := { row := fracPowsUptoRow, standIns := [], harness := (true, "120af3a17219b6948b7247e82fea1e21c238fa7939f54a46d6ad01bbc602bb58"), looks := false }, kinds := [], alts := [], laidByText := true, laidKinds := [.data, .data, .data], laidTests := true, laidLooks := .later }
def FracPowsUptoCardSaid : Prop := Claim7.holds Tryd.pinned (.plain (OpenSpec.upto fracPowsSpec)) fracPowsUptoCard

/-- THE SECOND FORM's CARD OF 'earshotlaw01.FracFloors'. -/
def fracFloorsUptoCard : Claim7 := { stood := { row := fracFloorsUptoRow, standIns := [], harness := (true, "120af3a17219b6948b7247e82fea1e21c238fa7939f54a46d6ad01bbc602bb58"), looks := false }, kinds := [], alts := [], laidByText := true, laidKinds := [.data, .data, .data], laidTests := true, laidLooks := .later }
def FracFloorsUptoCardSaid : Prop := Claim7.holds Tryd.pinned (.plain (OpenSpec.upto fracFloorsSpec)) fracFloorsUptoCard

/-- THE SECOND FORM's CARD OF 'earshotlaw01.FracTexts'. -/
def fracTextsUptoCard : Claim7 := { stood := { row := fracTextsUptoRow, standIns := [], harness := (true, "120af3a17219b6948b7247e82fea1e21c238fa7939f54a46d6ad01bbc602bb58"), looks := false }, kinds := [], alts := [], laidByText := true, laidKinds := [.data, .data, .data], laidTests := true, laidLooks := .later }
def FracTextsUptoCardSaid : Prop := Claim7.holds Tryd.pinned (.plain (OpenSpec.upto fracTextsSpec)) fracTextsUptoCard

/-- THE SECOND FORM's CARD OF 'earshotlaw01.FracDecimals'. -/
def fracDecimalsUptoCard : Claim7 := { stood := { row := fracDecimalsUptoRow, standIns := [], harness := (true, "120af3a17219b6948b7247e82fea1e21c238fa7939f54a46d6ad01bbc602bb58"), looks := false }, kinds := [], alts := [], laidByText := true, laidKinds := [.data, .data, .data], laidTests := true, laidLooks := .later }
def FracDecimalsUptoCardSaid : Prop := Claim7.holds Tryd.pinned (.plain (OpenSpec.upto fracDecimalsSpec)) fracDecimalsUptoCard

/-- THE SECOND FORM's CARD OF 'earshotlaw01.FracParses'. -/
def fracParsesUptoCard : Claim7 := { stood := { row := fracParsesUptoRow, standIns := [], harness := (true, "120af3a17219b6948b7247e82fea1e21c238fa7939f54a46d6ad01bbc602bb58"), looks := false }, kinds := [], alts := [], laidByText := true, laidKinds := [.data, .data, .data], laidTests := true, laidLooks := .later }
def FracParsesUptoCardSaid : Prop := Claim7.holds Tryd.pinned (.plain (OpenSpec.upto fracParsesSpec)) fracParsesUptoCard

/-- THE SECOND FORM's CARD OF 'earshotlaw01.FracOrders'. -/
def fracOrdersUptoCard : Claim7 := { stood := { row := fracOrdersUptoRow, standIns := [], harness := (true, "120af3a17219b6948b7247e82fea1e21c238fa7939f54a46d6ad01bbc602bb58"), looks := false }, kinds := [], alts := [], laidByText := true, laidKinds := [.data, .data, .data], laidTests := true, laidLooks := .later }
def FracOrdersUptoCardSaid : Prop := Claim7.holds Tryd.pinned (.plain (OpenSpec.upto fracOrdersSpec)) fracOrdersUptoCard

/-- THE SECOND FORM's CARD OF 'earshotlaw01.FracAdds'. -/
def fracAddsUptoCard : Claim7 := { stood := { row := fracAddsUptoRow, standIns := [], harness := (true, "120af3a17219b6948b7247e82fea1e21c238fa7939f54a46d6ad01bbc602bb58"), looks := false }, kinds := [], alts := [], laidByText := true, laidKinds := [.data, .data, .data], laidTests := true, laidLooks := .later }
def FracAddsUptoCardSaid : Prop := Claim7.holds Tryd.pinned (.plain (OpenSpec.upto fracAddsSpec)) fracAddsUptoCard

/-- THE SECOND FORM's CARD OF 'earshotlaw01.FracMuls'. -/
def fracMulsUptoCard : Claim7 := { stood := { row := fracMulsUptoRow, standIns := [], harness := (true, "120af3a17219b6948b7247e82fea1e21c238fa7939f54a46d6ad01bbc602bb58"), looks := false }, kinds := [], alts := [], laidByText := true, laidKinds := [.data, .data, .data], laidTests := true, laidLooks := .later }
def FracMulsUptoCardSaid : Prop := Claim7.holds Tryd.pinned (.plain (OpenSpec.upto fracMulsSpec)) fracMulsUptoCard

/-- THE SECOND FORM's CARD OF 'earshotlaw01.FracPowers'. -/
def fracPowersUptoCard : Claim7 := { stood := { row := fracPowersUptoRow, standIns := [], harness := (true, "120af3a17219b6948b7247e82fea1e21c238fa7939f54a46d6ad01bbc602bb58"), looks := false }, kinds := [], alts := [], laidByText := true, laidKinds := [.data, .data, .data], laidTests := true, laidLooks := .later }
def FracPowersUptoCardSaid : Prop := Claim7.holds Tryd.pinned (.plain (OpenSpec.upto fracPowersSpec)) fracPowersUptoCard

/-- THE SECOND FORM's CARD OF 'earshotlaw01.FracOrdered'. -/
def fracOrderedUptoCard : Claim7 := { stood := { row := fracOrderedUptoRow, standIns := [], harness := (true, "120af3a17219b6948b7247e82fea1e21c238fa7939f54a46d6ad01bbc602bb58"), looks := false }, kinds := [], alts := [], laidByText := true, laidKinds := [.data, .data, .data], laidTests := true, laidLooks := .later }
def FracOrderedUptoCardSaid : Prop := Claim7.holds Tryd.pinned (.plain (OpenSpec.upto fracOrderedSpec)) fracOrderedUptoCard

/-- THE SECOND FORM's CARD OF 'earshotlaw01.FracField'. -/
def fracFieldUptoCard : Claim7 := { stood := { row := fracFieldUptoRow, standIns := [], harness := (true, "120af3a17219b6948b7247e82fea1e21c238fa7939f54a46d6ad01bbc602bb58"), looks := false }, kinds := [], alts := [], laidByText := true, laidKinds := [.data, .data, .data], laidTests := true, laidLooks := .later }
def FracFieldUptoCardSaid : Prop := Claim7.holds Tryd.pinned (.plain (OpenSpec.upto fracFieldSpec)) fracFieldUptoCard

/-- THE SECOND FORM's CARD OF 'earshotlaw01.FracOwn'. -/
def fracOwnUptoCard : Claim7 := { stood := { row := fracOwnUptoRow, standIns := [], harness := (true, "120af3a17219b6948b7247e82fea1e21c238fa7939f54a46d6ad01bbc602bb58"), looks := false }, kinds := [], alts := [], laidByText := true, laidKinds := [.data, .data, .data], laidTests := true, laidLooks := .later }
def FracOwnUptoCardSaid : Prop := Claim7.holds Tryd.pinned (.plain (OpenSpec.upto fracOwnSpec)) fracOwnUptoCard

/-- THE SECOND FORM's CARD OF 'earshotlaw01.FracCanon'. -/
def fracCanonUptoCard : Claim7 := { stood := { row := fracCanonUptoRow, standIns := [], harness := (true, "120af3a17219b6948b7247e82fea1e21c238fa7939f54a46d6ad01bbc602bb58"), looks := false }, kinds := [], alts := [], laidByText := true, laidKinds := [.data, .data, .data], laidTests := true, laidLooks := .later }
def FracCanonUptoCardSaid : Prop := Claim7.holds Tryd.pinned (.plain (OpenSpec.upto fracCanonSpec)) fracCanonUptoCard

/-- THE SECOND FORM's CARD OF 'earshotlaw01.FracMakes'. -/
def fracMakesUptoCard : Claim7 := { stood := { row := fracMakesUptoRow, standIns := [], harness := (true, "120af3a17219b6948b7247e82fea1e21c238fa7939f54a46d6ad01bbc602bb58"), looks := false }, kinds := [], alts := [], laidByText := true, laidKinds := [.data, .data, .data], laidTests := true, laidLooks := .later }
def FracMakesUptoCardSaid : Prop := Claim7.holds Tryd.pinned (.plain (OpenSpec.upto fracMakesSpec)) fracMakesUptoCard

/-- THE SECOND FORM's CARD OF 'earshotlaw01.FracWhole'. -/
def fracWholeUptoCard : Claim7 := { stood := { row := fracWholeUptoRow, standIns := [], harness := (true, "120af3a17219b6948b7247e82fea1e21c238fa7939f54a46d6ad01bbc602bb58"), looks := false }, kinds := [], alts := [], laidByText := true, laidKinds := [.data, .data, .data], laidTests := true, laidLooks := .later }
def FracWholeUptoCardSaid : Prop := Claim7.holds Tryd.pinned (.plain (OpenSpec.upto fracWholeSpec)) fracWholeUptoCard

/-- THE SECOND FORM's CARD OF 'earshotlaw01.FracLists'. -/
def fracListsUptoCard : Claim7 := { stood := { row := fracListsUptoRow, standIns := [], harness := (true, "120af3a17219b6948b7247e82fea1e21c238fa7939f54a46d6ad01bbc602bb58"), looks := false }, kinds := [], alts := [], laidByText := true, laidKinds := [.data, .data, .data], laidTests := true, laidLooks := .later }
def FracListsUptoCardSaid : Prop := Claim7.holds Tryd.pinned (.plain (OpenSpec.upto fracListsSpec)) fracListsUptoCard

/-- THE SECOND FORM's CARD OF 'earshotlaw01.FracNormal'. -/
def fracNormalUptoCard : Claim7 := { stood := { row := fracNormalUptoRow, standIns := [], harness := (true, "120af3a17219b6948b7247e82fea1e21c238fa7939f54a46d6ad01bbc602bb58"), looks := false }, kinds := [], alts := [], laidByText := true, laidKinds := [.data, .data, .data], laidTests := true, laidLooks := .later }
def FracNormalUptoCardSaid : Prop := Claim7.holds Tryd.pinned (.plain (OpenSpec.upto fracNormalSpec)) fracNormalUptoCard
end Rows
end Go.Proofs.YtmidncjhlnfojaaDoor
