/-
  DERIVED. GIVEN WITH THE SEED: THE CARDS: each row of YtniaeiikdgbnfaaGreatDoorRows.lean that lists a variable, with what it lists TIED to the program's text (the seventh form; the later family's looks); each row that meets fmt, with fmt's text TOLD by the authors' own Lean function (tested against real Go, not proved from fmt's source: count such statements apart). THE CARD IS WHAT COUNTS. Prove the row's statement (the work); the ties are given (YtniaeiikdgbnfaaGreatDoorTie.lean); close each card by the builder's one call (the guide's Derived/Test/ToyasCard.lean, 'card_holds'). Laid BY PROGRAM, IN A SANDBOX (cutbox-door.mjs). By AI agents, Wed Nov 11 2026. No macro, syntax, notation, axiom, sorry.
-/
import Derived.Test.YtniaeiikdgbnfaaGreatDoorRows
import GoSem.ClaimSeven
namespace Go.Proofs.YtniaeiikdgbnfaaGreatDoor
namespace Rows

/-- THE TIED CARD OF 'sallyportlaw07.SealHolds'. -/
def sealHoldsCard : Claim7 := { stood := { row := sealHoldsRow, standIns := [], harness := (true, "b77439ef2b362a8178196630f0ac5090f0e7f1c03a3a067aec0c8f68e9b89347"), looks := false }, kinds := [], alts := [], laidByText := true, laidKinds := [.data, .data, .data, .data, .widerDeep], laidTests := true, laidLooks := .later }
def SealHoldsCardSaid : Prop := Claim7.holds Tryz.pinned (.plain (OpenSpec.ofChange sealHoldsSpec)) sealHoldsCard

/-- THE SECOND FORM's CARD OF 'sallyportlaw07.SealHolds'. -/
def sealHoldsUptoCard : Claim7 := { stood := { row := sealHoldsUptoRow, standIns := [], harness := (true, "b77439ef2b362a8178196630f0ac5090f0e7f1c03a3a067aec0c8f68e9b89347"), looks := false }, kinds := [], alts := [], laidByText := true, laidKinds := [.data, .data, .data, .data, .widerDeep], laidTests := true, laidLooks := .later }
def SealHoldsUptoCardSaid : Prop := Claim7.holds Tryz.pinned (.plain (OpenSpec.upto sealHoldsSpec)) sealHoldsUptoCard
end Rows
end Go.Proofs.YtniaeiikdgbnfaaGreatDoor
