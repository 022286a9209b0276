/-
  DERIVED. GIVEN WITH THE SEED: THE PROGRAM's TIES (one call each: nine closed facts by the kernel) AND EACH ROW's TIE, after the 31st guide's Derived/Test/Toyas{Tie, Card}.lean. No idea stands in it: it is a product of the set-up. Laid BY PROGRAM, IN A SANDBOX (cutbox-door.mjs). By AI agents, Wed Nov 11 2026. No macro, syntax, notation, axiom, sorry.
-/
import Derived.Test.YtniaeiikdgbnfaaDoorRows
import Derived.LaidByTextLater
import Derived.SevenTiedAt
import Derived.LaidSub
import Derived.LaidOnce
namespace Go.Proofs.YtniaeiikdgbnfaaDoor
open Go
set_option maxRecDepth 100000
theorem seatTie1 : Tryd.prog.laidByTextLater [("sallyport/longsum.rounds", Rows.laid_sallyport_longsum_rounds), ("sallyport/longsum.first", Rows.laid_sallyport_longsum_first), ("sallyport/shortsum.rounds", Rows.laid_sallyport_shortsum_rounds), ("sallyport/shortsum.first", Rows.laid_sallyport_shortsum_first), ("sallyport/key.exponent", Rows.laid_sallyport_key_exponent)] [.data, .data, .data, .data, .widerDeep] true :=
  Program.laidByTextLater_by_one 34 8 81 (by kernel_rfl) (by kernel_rfl) (by kernel_rfl) (by kernel_rfl) (by kernel_rfl) (by kernel_rfl) (fun _ _ => by kernel_rfl)
theorem noOwnUnsafe : Tryd.pinned.checked.prog.headLifts.contains "ownunsafe" = false := by kernel_rfl
theorem tie : Tryd.prog.laidByTextLater [("sallyport/key.exponent", Rows.laid_sallyport_key_exponent)] [.widerDeep] true :=
  Program.laidByTextLater.sub seatTie1 ["sallyport/key.exponent"] (by kernel_rfl) (by kernel_rfl)
theorem keyOpens_row_tie : Rows.keyOpensRow.laidByTextAt .later Tryd.pinned [.widerDeep] true :=
  OpenClaim.laidByTextAt_later rfl rfl tie noOwnUnsafe
theorem keyBack_row_tie : Rows.keyBackRow.laidByTextAt .later Tryd.pinned [.widerDeep] true :=
  OpenClaim.laidByTextAt_later rfl rfl tie noOwnUnsafe
theorem keyProducts_row_tie : Rows.keyProductsRow.laidByTextAt .later Tryd.pinned [.widerDeep] true :=
  OpenClaim.laidByTextAt_later rfl rfl tie noOwnUnsafe
theorem keyParses_row_tie : Rows.keyParsesRow.laidByTextAt .later Tryd.pinned [.widerDeep] true :=
  OpenClaim.laidByTextAt_later rfl rfl tie noOwnUnsafe
theorem keyNames_row_tie : Rows.keyNamesRow.laidByTextAt .later Tryd.pinned [.widerDeep] true :=
  OpenClaim.laidByTextAt_later rfl rfl tie noOwnUnsafe
theorem tie2 : Tryd.prog.laidByTextLater [("sallyport/shortsum.rounds", Rows.laid_sallyport_shortsum_rounds), ("sallyport/shortsum.first", Rows.laid_sallyport_shortsum_first), ("sallyport/key.exponent", Rows.laid_sallyport_key_exponent)] [.data, .data, .widerDeep] true :=
  Program.laidByTextLater.sub seatTie1 ["sallyport/shortsum.rounds", "sallyport/shortsum.first", "sallyport/key.exponent"] (by kernel_rfl) (by kernel_rfl)
theorem keyMakes_row_tie : Rows.keyMakesRow.laidByTextAt .later Tryd.pinned [.data, .data, .widerDeep] true :=
  OpenClaim.laidByTextAt_later rfl rfl tie2 noOwnUnsafe
theorem keyOwn_row_tie : Rows.keyOwnRow.laidByTextAt .later Tryd.pinned [.data, .data, .widerDeep] true :=
  OpenClaim.laidByTextAt_later rfl rfl tie2 noOwnUnsafe
theorem tie3 : Tryd.prog.laidByTextLater [("sallyport/longsum.rounds", Rows.laid_sallyport_longsum_rounds), ("sallyport/longsum.first", Rows.laid_sallyport_longsum_first), ("sallyport/shortsum.rounds", Rows.laid_sallyport_shortsum_rounds), ("sallyport/shortsum.first", Rows.laid_sallyport_shortsum_first)] [.data, .data, .data, .data] true :=
  Program.laidByTextLater.sub seatTie1 ["sallyport/longsum.rounds", "sallyport/longsum.first", "sallyport/shortsum.rounds", "sallyport/shortsum.first"] (by kernel_rfl) (by kernel_rfl)
theorem sealDigests_row_tie : Rows.sealDigestsRow.laidByTextAt .later Tryd.pinned [.data, .data, .data, .data] true :=
  OpenClaim.laidByTextAt_later rfl rfl tie3 noOwnUnsafe
theorem sealBlocks_row_tie : Rows.sealBlocksRow.laidByTextAt .later Tryd.pinned [.data, .data, .data, .data] true :=
  OpenClaim.laidByTextAt_later rfl rfl tie3 noOwnUnsafe
theorem sealSalts_row_tie : Rows.sealSaltsRow.laidByTextAt .later Tryd.pinned [.data, .data, .data, .data] true :=
  OpenClaim.laidByTextAt_later rfl rfl tie3 noOwnUnsafe
theorem tie4 : Tryd.prog.laidByTextLater [("sallyport/longsum.rounds", Rows.laid_sallyport_longsum_rounds), ("sallyport/longsum.first", Rows.laid_sallyport_longsum_first), ("sallyport/shortsum.rounds", Rows.laid_sallyport_shortsum_rounds), ("sallyport/shortsum.first", Rows.laid_sallyport_shortsum_first), ("sallyport/key.exponent", Rows.laid_sallyport_key_exponent)] [.data, .data, .data, .data, .widerDeep] true :=
  Program.laidByTextLater.sub seatTie1 ["sallyport/longsum.rounds", "sallyport/longsum.first", "sallyport/shortsum.rounds", "sallyport/shortsum.first", "sallyport/key.exponent"] (by kernel_rfl) (by kernel_rfl)
theorem sealSigns_row_tie : Rows.sealSignsRow.laidByTextAt .later Tryd.pinned [.data, .data, .data, .data, .widerDeep] true :=
  OpenClaim.laidByTextAt_later rfl rfl tie4 noOwnUnsafe
theorem sealTexts_row_tie : Rows.sealTextsRow.laidByTextAt .later Tryd.pinned [.data, .data, .data, .data, .widerDeep] true :=
  OpenClaim.laidByTextAt_later rfl rfl tie4 noOwnUnsafe
theorem sealLengths_row_tie : Rows.sealLengthsRow.laidByTextAt .later Tryd.pinned [.data, .data, .data, .data, .widerDeep] true :=
  OpenClaim.laidByTextAt_later rfl rfl tie4 noOwnUnsafe
theorem keyOpensUpto_row_tie : Rows.keyOpensUptoRow.laidByTextAt .later Tryd.pinned [.widerDeep] true :=
  OpenClaim.laidByTextAt_later rfl rfl tie noOwnUnsafe
theorem keyBackUpto_row_tie : Rows.keyBackUptoRow.laidByTextAt .later Tryd.pinned [.widerDeep] true :=
  OpenClaim.laidByTextAt_later rfl rfl tie noOwnUnsafe
theorem keyProductsUpto_row_tie : Rows.keyProductsUptoRow.laidByTextAt .later Tryd.pinned [.widerDeep] true :=
  OpenClaim.laidByTextAt_later rfl rfl tie noOwnUnsafe
theorem keyParsesUpto_row_tie : Rows.keyParsesUptoRow.laidByTextAt .later Tryd.pinned [.widerDeep] true :=
  OpenClaim.laidByTextAt_later rfl rfl tie noOwnUnsafe
theorem keyNamesUpto_row_tie : Rows.keyNamesUptoRow.laidByTextAt .later Tryd.pinned [.widerDeep] true :=
  OpenClaim.laidByTextAt_later rfl rfl tie noOwnUnsafe
theorem keyMakesUpto_row_tie : Rows.keyMakesUptoRow.laidByTextAt .later Tryd.pinned [.data, .data, .widerDeep] true :=
  OpenClaim.laidByTextAt_later rfl rfl tie2 noOwnUnsafe
theorem keyOwnUpto_row_tie : Rows.keyOwnUptoRow.laidByTextAt .later Tryd.pinned [.data, .data, .widerDeep] true :=
  OpenClaim.laidByTextAt_later rfl rfl tie2 noOwnUnsafe
theorem sealDigestsUpto_row_tie : Rows.sealDigestsUptoRow.laidByTextAt .later Tryd.pinned [.data, .data, .data, .data] true :=
  OpenClaim.laidByTextAt_later rfl rfl tie3 noOwnUnsafe
theorem sealBlocksUpto_row_tie : Rows.sealBlocksUptoRow.laidByTextAt .later Tryd.pinned [.data, .data, .data, .data] true :=
  OpenClaim.laidByTextAt_later rfl rfl tie3 noOwnUnsafe
theorem sealSaltsUpto_row_tie : Rows.sealSaltsUptoRow.laidByTextAt .later Tryd.pinned [.data, .data, .data, .data] true :=
  OpenClaim.laidByTextAt_later rfl rfl tie3 noOwnUnsafe
theorem sealSignsUpto_row_tie : Rows.sealSignsUptoRow.laidByTextAt .later Tryd.pinned [.data, .data, .data, .data, .widerDeep] true :=
  OpenClaim.laidByTextAt_later rfl rfl tie4 noOwnUnsafe
theorem sealTextsUpto_row_tie : Rows.sealTextsUptoRow.laidByTextAt .later Tryd.pinned [.data, .data, .data, .data, .widerDeep] true :=
  OpenClaim.laidByTextAt_later rfl rfl tie4 noOwnUnsafe
theorem sealLengthsUpto_row_tie : Rows.sealLengthsUptoRow.laidByTextAt .later Tryd.pinned [.data, .data, .data, .data, .widerDeep] true :=
  OpenClaim.laidByTextAt_later rfl rfl tie4 noOwnUnsafe
end Go.Proofs.YtniaeiikdgbnfaaDoor
