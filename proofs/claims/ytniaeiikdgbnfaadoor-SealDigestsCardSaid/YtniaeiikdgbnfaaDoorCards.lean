/-
  DERIVED. GIVEN WITH THE SEED: THE CARDS: each row of YtniaeiikdgbnfaaDoorRows.lean that lists a variable, with what it lists TIED to the program's text (the seventh form; the later family's looks); each row that meets fmt, with fmt's text TOLD by the authors' own Lean function (tested against real Go, not proved from fmt's source: count such statements apart). THE CARD IS WHAT COUNTS. Prove the row's statement (the work); the ties are given (YtniaeiikdgbnfaaDoorTie.lean); close each card by the builder's one call (the guide's Derived/Test/ToyasCard.lean, 'card_holds'). Laid BY PROGRAM, IN A SANDBOX (cutbox-door.mjs). By AI agents, Wed Nov 11 2026. No macro, syntax, notation, axiom, sorry.
-/
import Derived.Test.YtniaeiikdgbnfaaDoorRows
import GoSem.ClaimSeven
namespace Go.Proofs.YtniaeiikdgbnfaaDoor
namespace Rows

/-- THE TIED CARD OF 'sallyportlaw06.KeyOpens'. -/
def keyOpensCard : Claim7 := { stood := { row := keyOpensRow, standIns := [], harness := (true, "3976c85e029a981ddd773fe73d6929c7016677f62fadd629b2acc830d3dfa05c"), looks := false }, kinds := [], alts := [], laidByText := true, laidKinds := [.widerDeep], laidTests := true, laidLooks := .later }
def KeyOpensCardSaid : Prop := Claim7.holds Tryd.pinned (.plain (OpenSpec.ofChange keyOpensSpec)) keyOpensCard

/-- THE TIED CARD OF 'sallyportlaw06.KeyBack'. -/
def keyBackCard : Claim7 := { stood := { row := keyBackRow, standIns := [], harness := (true, "3976c85e029a981ddd773fe73d6929c7016677f62fadd629b2acc830d3dfa05c"), looks := false }, kinds := [], alts := [], laidByText := true, laidKinds := [.widerDeep], laidTests := true, laidLooks := .later }
def KeyBackCardSaid : Prop := Claim7.holds Tryd.pinned (.plain (OpenSpec.ofChange keyBackSpec)) keyBackCard

/-- THE TIED CARD OF 'sallyportlaw06.KeyProducts'. -/
def keyProductsCard : Claim7 := { stood := { row := keyProductsRow, standIns := [], harness := (true, "3976c85e029a981ddd773fe73d6929c7016677f62fadd629b2acc830d3dfa05c"), looks := false }, kinds := [], alts := [], laidByText := true, laidKinds := [.widerDeep], laidTests := true, laidLooks := .later }
def KeyProductsCardSaid : Prop := Claim7.holds Tryd.pinned (.plain (OpenSpec.ofChange keyProductsSpec)) keyProductsCard

/-- THE TIED CARD OF 'sallyportlaw06.KeyParses'. -/
def keyParsesCard : Claim7 := { stood := { row := keyParsesRow, standIns := [], harness := (true, "3976c85e029a981ddd773fe73d6929c7016677f62fadd629b2acc830d3dfa05c"), looks := false }, kinds := [], alts := [], laidByText := true, laidKinds := [.widerDeep], laidTests := true, laidLooks := .later }
def KeyParsesCardSaid : Prop := Claim7.holds Tryd.pinned (.plain (OpenSpec.ofChange keyParsesSpec)) keyParsesCard

/-- THE TIED CARD OF 'sallyportlaw06.KeyNames'. -/
def keyNamesCard : Claim7 := { stood := { row := keyNamesRow, standIns := [], harness := (true, "3976c85e029a981ddd773fe73d6929c7016677f62fadd629b2acc830d3dfa05c"), looks := false }, kinds := [], alts := [], laidByText := true, laidKinds := [.widerDeep], laidTests := true, laidLooks := .later }
def KeyNamesCardSaid : Prop := Claim7.holds Tryd.pinned (.plain (OpenSpec.ofChange keyNamesSpec)) keyNamesCard

/-- THE TIED CARD OF 'sallyportlaw06.KeyMakes'. -/
def keyMakesCard : Claim7 := { stood := { row := keyMakesRow, standIns := [], harness := (true, "3976c85e029a981ddd773fe73d6929c7016677f62fadd629b2acc830d3dfa05c"), looks := false }, kinds := [], alts := [], laidByText := true, laidKinds := [.data, .data, .widerDeep], laidTests := true, laidLooks := .later }
def KeyMakesCardSaid : Prop := Claim7.holds Tryd.pinned (.plain (OpenSpec.ofChange keyMakesSpec)) keyMakesCard

/-- THE TIED CARD OF 'sallyportlaw06.KeyOwn'. -/
def keyOwnCard : Claim7 := { stood := { row := keyOwnRow, standIns := [], harness := (true, "3976c85e029a981ddd773fe73d6929c7016677f62fadd629b2acc830d3dfa05c"), looks := false }, kinds := [], alts := [], laidByText := true, laidKinds := [.data, .data, .widerDeep], laidTests := true, laidLooks := .later }
def KeyOwnCardSaid : Prop := Claim7.holds Tryd.pinned (.plain (OpenSpec.ofChange keyOwnSpec)) keyOwnCard

/-- THE TIED CARD OF 'sallyportlaw07.SealDigests'. -/
def sealDigestsCard : Claim7 := { stood := { row := sealDigestsRow, standIns := [], harness := (true, "3976c85e029a981ddd773fe73d6929c7016677f62fadd629b2acc830d3dfa05c"), looks := false }, kinds := [], alts := [], laidByText := true, laidKinds := [.data, .data, .data, .data], laidTests := true, laidLooks := .later }
def SealDigestsCardSaid : Prop := Claim7.holds Tryd.pinned (.plain (OpenSpec.ofChange sealDigestsSpec)) sealDigestsCard

/-- THE TIED CARD OF 'sallyportlaw07.SealBlocks'. -/
def sealBlocksCard : Claim7 := { stood := { row := sealBlocksRow, standIns := [], harness := (true, "3976c85e029a981ddd773fe73d6929c7016677f62fadd629b2acc830d3dfa05c"), looks := false }, kinds := [], alts := [], laidByText := true, laidKinds := [.data, .data, .data, .data], laidTests := true, laidLooks := .later }
def SealBlocksCardSaid : Prop := Claim7.holds Tryd.pinned (.plain (OpenSpec.ofChange sealBlocksSpec)) sealBlocksCard

/-- THE TIED CARD OF 'sallyportlaw07.SealSalts'. -/
def sealSaltsCard : Claim7 := { stood := { row := sealSaltsRow, standIns := [], harness := (true, "3976c85e029a981ddd773fe73d6929c7016677f62fadd629b2acc830d3dfa05c"), looks := false }, kinds := [], alts := [], laidByText := true, laidKinds := [.data, .data, .data, .data], laidTests := true, laidLooks := .later }
def SealSaltsCardSaid : Prop := Claim7.holds Tryd.pinned (.plain (OpenSpec.ofChange sealSaltsSpec)) sealSaltsCard

/-- THE TIED CARD OF 'sallyportlaw07.SealSigns'. -/
def sealSignsCard : Claim7 := { stood := { row := sealSignsRow, standIns := [], harness := (true, "3976c85e029a981ddd773fe73d6929c7016677f62fadd629b2acc830d3dfa05c"), looks := false }, kinds := [], alts := [], laidByText := true, laidKinds := [.data, .data, .data, .data, .widerDeep], laidTests := true, laidLooks := .later }
def SealSignsCardSaid : Prop := Claim7.holds Tryd.pinned (.plain (OpenSpec.ofChange sealSignsSpec)) sealSignsCard

/-- THE TIED CARD OF 'sallyportlaw07.SealTexts'. -/
def sealTextsCard : Claim7 := { stood := { row := sealTextsRow, standIns := [], harness := (true, "3976c85e029a981ddd773fe73d6929c7016677f62fadd629b2acc830d3dfa05c"), looks := false }, kinds := [], alts := [], laidByText := true, laidKinds := [.data, .data, .data, .data, .widerDeep], laidTests := true, laidLooks := .later }
def SealTextsCardSaid : Prop := Claim7.holds Tryd.pinned (.plain (OpenSpec.ofChange sealTextsSpec)) sealTextsCard

/-- THE TIED CARD OF 'sallyportlaw07.SealLengths'. -/
def sealLengthsCard : Claim7 := { stood := { row := sealLengthsRow, standIns := [], harness := (true, "3976c85e029a981ddd773fe73d6929c7016677f62fadd629b2acc830d3dfa05c"), looks := false }, kinds := [], alts := [], laidByText := true, laidKinds := [.data, .data, .data, .data, .widerDeep], laidTests := true, laidLooks := .later }
def SealLengthsCardSaid : Prop := Claim7.holds Tryd.pinned (.plain (OpenSpec.ofChange sealLengthsSpec)) sealLengthsCard

/-- THE SECOND FORM's CARD OF 'sallyportlaw06.KeyOpens'. -/
def keyOpensUptoCard : Claim7 := { stood := { row := keyOpensUptoRow, standIns := [], harness := (true, "3976c85e029a981ddd773fe73d6929c7016677f62fadd629b2acc830d3dfa05c"), looks := false }, kinds := [], alts := [], laidByText := true, laidKinds := [.widerDeep], laidTests := true, laidLooks := .later }
def KeyOpensUptoCardSaid : Prop := Claim7.holds Tryd.pinned (.plain (OpenSpec.upto keyOpensSpec)) keyOpensUptoCard

/-- THE SECOND FORM's CARD OF 'sallyportlaw06.KeyBack'. -/
def keyBackUptoCard : Claim7 := { stood := { row := keyBackUptoRow, standIns := [], harness := (true, "3976c85e029a981ddd773fe73d6929c7016677f62fadd629b2acc830d3dfa05c"), looks := false }, kinds := [], alts := [], laidByText := true, laidKinds := [.widerDeep], laidTests := true, laidLooks := .later }
def KeyBackUptoCardSaid : Prop := Claim7.holds Tryd.pinned (.plain (OpenSpec.upto keyBackSpec)) keyBackUptoCard

/-- THE SECOND FORM's CARD OF 'sallyportlaw06.KeyProducts'. -/
def keyProductsUptoCard : Claim7 := { stood := { row := keyProductsUptoRow, standIns := [], harness := (true, "3976c85e029a981ddd773fe73d6929c7016677f62fadd629b2acc830d3dfa05c"), looks := false }, kinds := [], alts := [], laidByText := true, laidKinds := [.widerDeep], laidTests := true, laidLooks := .later }
def KeyProductsUptoCardSaid : Prop := Claim7.holds Tryd.pinned (.plain (OpenSpec.upto keyProductsSpec)) keyProductsUptoCard

/-- THE SECOND FORM's CARD OF 'sallyportlaw06.KeyParses'. -/
def keyParsesUptoCard : Claim7 := { stood := { row := keyParsesUptoRow, standIns := [], harness := (true, "3976c85e029a981ddd773fe73d6929c7016677f62fadd629b2acc830d3dfa05c"), looks := false }, kinds := [], alts := [], laidByText := true, laidKinds := [.widerDeep], laidTests := true, laidLooks := .later }
def KeyParsesUptoCardSaid : Prop := Claim7.holds Tryd.pinned (.plain (OpenSpec.upto keyParsesSpec)) keyParsesUptoCard

/-- THE SECOND FORM's CARD OF 'sallyportlaw06.KeyNames'. -/
def keyNamesUptoCard : Claim7 := { stood := { row := keyNamesUptoRow, standIns := [], harness := (true, "3976c85e029a981ddd773fe73d6929c7016677f62fadd629b2acc830d3dfa05c"), looks := false }, kinds := [], alts := [], laidByText := true, laidKinds := [.widerDeep], laidTests := true, laidLooks := .later }
def KeyNamesUptoCardSaid : Prop := Claim7.holds Tryd.pinned (.plain (OpenSpec.upto keyNamesSpec)) keyNamesUptoCard

/-- THE SECOND FORM's CARD OF 'sallyportlaw06.KeyMakes'. -/
def keyMakesUptoCard : Claim7 := { stood := { row := keyMakesUptoRow, standIns := [], harness := (true, "3976c85e029a981ddd773fe73d6929c7016677f62fadd629b2acc830d3dfa05c"), looks := false }, kinds := [], alts := [], laidByText := true, laidKinds := [.data, .data, .widerDeep], laidTests := true, laidLooks := .later }
def KeyMakesUptoCardSaid : Prop := Claim7.holds Tryd.pinned (.plain (OpenSpec.upto keyMakesSpec)) keyMakesUptoCard

/-- THE SECOND FORM's CARD OF 'sallyportlaw06.KeyOwn'. -/
def keyOwnUptoCard : Claim7 := { stood := { row := keyOwnUptoRow, standIns := [], harness := (true, "3976c85e029a981ddd773fe73d6929c7016677f62fadd629b2acc830d3dfa05c"), looks := false }, kinds := [], alts := [], laidByText := true, laidKinds := [.data, .data, .widerDeep], laidTests := true, laidLooks := .later }
def KeyOwnUptoCardSaid : Prop := Claim7.holds Tryd.pinned (.plain (OpenSpec.upto keyOwnSpec)) keyOwnUptoCard

/-- THE SECOND FORM's CARD OF 'sallyportlaw07.SealDigests'. -/
def sealDigestsUptoCard : Claim7 := { stood := { row := sealDigestsUptoRow, standIns := [], harness := (true, "3976c85e029a981ddd773fe73d6929c7016677f62fadd629b2acc830d3dfa05c"), looks := false }, kinds := [], alts := [], laidByText := true, laidKinds := [.data, .data, .data, .data], laidTests := true, laidLooks := .later }
def SealDigestsUptoCardSaid : Prop := Claim7.holds Tryd.pinned (.plain (OpenSpec.upto sealDigestsSpec)) sealDigestsUptoCard

/-- THE SECOND FORM's CARD OF 'sallyportlaw07.SealBlocks'. -/
def sealBlocksUptoCard : Claim7 := { stood := { row := sealBlocksUptoRow, standIns := [], harness := (true, "3976c85e029a981ddd773fe73d6929c7016677f62fadd629b2acc830d3dfa05c"), looks := false }, kinds := [], alts := [], laidByText := true, laidKinds := [.data, .data, .data, .data], laidTests := true, laidLooks := .later }
def SealBlocksUptoCardSaid : Prop := Claim7.holds Tryd.pinned (.plain (OpenSpec.upto sealBlocksSpec)) sealBlocksUptoCard

/-- THE SECOND FORM's CARD OF 'sallyportlaw07.SealSalts'. -/
def sealSaltsUptoCard : Claim7 := { stood := { row := sealSaltsUptoRow, standIns := [], harness := (true, "3976c85e029a981ddd773fe73d6929c7016677f62fadd629b2acc830d3dfa05c"), looks := false }, kinds := [], alts := [], laidByText := true, laidKinds := [.data, .data, .data, .data], laidTests := true, laidLooks := .later }
def SealSaltsUptoCardSaid : Prop := Claim7.holds Tryd.pinned (.plain (OpenSpec.upto sealSaltsSpec)) sealSaltsUptoCard

/-- THE SECOND FORM's CARD OF 'sallyportlaw07.SealSigns'. -/
def sealSignsUptoCard : Claim7 := { stood := { row := sealSignsUptoRow, standIns := [], harness := (true, "3976c85e029a981ddd773fe73d6929c7016677f62fadd629b2acc830d3dfa05c"), looks := false }, kinds := [], alts := [], laidByText := true, laidKinds := [.data, .data, .data, .data, .widerDeep], laidTests := true, laidLooks := .later }
def SealSignsUptoCardSaid : Prop := Claim7.holds Tryd.pinned (.plain (OpenSpec.upto sealSignsSpec)) sealSignsUptoCard

/-- THE SECOND FORM's CARD OF 'sallyportlaw07.SealTexts'. -/
def sealTextsUptoCard : Claim7 := { stood := { row := sealTextsUptoRow, standIns := [], harness := (true, "3976c85e029a981ddd773fe73d6929c7016677f62fadd629b2acc830d3dfa05c"), looks := false }, kinds := [], alts := [], laidByText := true, laidKinds := [.data, .data, .data, .data, .widerDeep], laidTests := true, laidLooks := .later }
def SealTextsUptoCardSaid : Prop := Claim7.holds Tryd.pinned (.plain (OpenSpec.upto sealTextsSpec)) sealTextsUptoCard

/-- THE SECOND FORM's CARD OF 'sallyportlaw07.SealLengths'. -/
def sealLengthsUptoCard : Claim7 := { stood := { row := sealLengthsUptoRow, standIns := [], harness := (true, "3976c85e029a981ddd773fe73d6929c7016677f62fadd629b2acc830d3dfa05c"), looks := false }, kinds := [], alts := [], laidByText := true, laidKinds := [.data, .data, .data, .data, .widerDeep], laidTests := true, laidLooks := .later }
def SealLengthsUptoCardSaid : Prop := Claim7.holds Tryd.pinned (.plain (OpenSpec.upto sealLengthsSpec)) sealLengthsUptoCard
end Rows
end Go.Proofs.YtniaeiikdgbnfaaDoor
