/-
  DERIVED. GIVEN WITH THE SEED: THE PROGRAM's TIES (one call each: nine closed facts by the kernel) AND EACH ROW's TIE, after the 31st guide's Derived/Test/Toyas{Tie, Card}.lean. No idea stands in it: it is a product of the set-up. Laid BY PROGRAM, IN A SANDBOX (cutbox-door.mjs). By AI agents, Wed Nov 11 2026. No macro, syntax, notation, axiom, sorry.
-/
import Derived.Test.YtfoekpcljhbijaaGreatDoorRows
import Derived.LaidByTextLater
import Derived.SevenTiedAt
import Derived.LaidSub
import Derived.LaidOnce
namespace Go.Proofs.YtfoekpcljhbijaaGreatDoor
open Go
set_option maxRecDepth 100000
theorem seatTie1 : Tryz.prog.laidByTextLater [("bytes.ErrTooLarge", Rows.laid_bytes_ErrTooLarge), ("intrusion/inflate.order", Rows.laid_intrusion_inflate_order)] [.sentinel, .widerDeep] true :=
  Program.laidByTextLater_by_one 33 8 20 (by kernel_rfl) (by kernel_rfl) (by kernel_rfl) (by kernel_rfl) (by kernel_rfl) (by kernel_rfl) (fun _ _ => by kernel_rfl)
theorem noOwnUnsafe : Tryz.pinned.checked.prog.headLifts.contains "ownunsafe" = false := by kernel_rfl
theorem tie : Tryz.prog.laidByTextLater [("bytes.ErrTooLarge", Rows.laid_bytes_ErrTooLarge), ("intrusion/inflate.order", Rows.laid_intrusion_inflate_order)] [.sentinel, .widerDeep] true :=
  Program.laidByTextLater.sub seatTie1 ["bytes.ErrTooLarge", "intrusion/inflate.order"] (by kernel_rfl) (by kernel_rfl)
theorem gzipFeeds_row_tie : Rows.gzipFeedsRow.laidByTextAt .later Tryz.pinned [.sentinel, .widerDeep] true :=
  OpenClaim.laidByTextAt_later rfl rfl tie noOwnUnsafe
theorem gzipAlls_row_tie : Rows.gzipAllsRow.laidByTextAt .later Tryz.pinned [.sentinel, .widerDeep] true :=
  OpenClaim.laidByTextAt_later rfl rfl tie noOwnUnsafe
theorem gzipRoundTrip_row_tie : Rows.gzipRoundTripRow.laidByTextAt .later Tryz.pinned [.sentinel, .widerDeep] true :=
  OpenClaim.laidByTextAt_later rfl rfl tie noOwnUnsafe
theorem gzipPieces_row_tie : Rows.gzipPiecesRow.laidByTextAt .later Tryz.pinned [.sentinel, .widerDeep] true :=
  OpenClaim.laidByTextAt_later rfl rfl tie noOwnUnsafe
theorem gzipNone_row_tie : Rows.gzipNoneRow.laidByTextAt .later Tryz.pinned [.sentinel, .widerDeep] true :=
  OpenClaim.laidByTextAt_later rfl rfl tie noOwnUnsafe
theorem gzipParts_row_tie : Rows.gzipPartsRow.laidByTextAt .later Tryz.pinned [.sentinel, .widerDeep] true :=
  OpenClaim.laidByTextAt_later rfl rfl tie noOwnUnsafe
theorem gzipFeedsUpto_row_tie : Rows.gzipFeedsUptoRow.laidByTextAt .later Tryz.pinned [.sentinel, .widerDeep] true :=
  OpenClaim.laidByTextAt_later rfl rfl tie noOwnUnsafe
theorem gzipAllsUpto_row_tie : Rows.gzipAllsUptoRow.laidByTextAt .later Tryz.pinned [.sentinel, .widerDeep] true :=
  OpenClaim.laidByTextAt_later rfl rfl tie noOwnUnsafe
theorem gzipRoundTripUpto_row_tie : Rows.gzipRoundTripUptoRow.laidByTextAt .later Tryz.pinned [.sentinel, .widerDeep] true :=
  OpenClaim.laidByTextAt_later rfl rfl tie noOwnUnsafe
theorem gzipPiecesUpto_row_tie : Rows.gzipPiecesUptoRow.laidByTextAt .later Tryz.pinned [.sentinel, .widerDeep] true :=
  OpenClaim.laidByTextAt_later rfl rfl tie noOwnUnsafe
theorem gzipNoneUpto_row_tie : Rows.gzipNoneUptoRow.laidByTextAt .later Tryz.pinned [.sentinel, .widerDeep] true :=
  OpenClaim.laidByTextAt_later rfl rfl tie noOwnUnsafe
theorem gzipPartsUpto_row_tie : Rows.gzipPartsUptoRow.laidByTextAt .later Tryz.pinned [.sentinel, .widerDeep] true :=
  OpenClaim.laidByTextAt_later rfl rfl tie noOwnUnsafe
end Go.Proofs.YtfoekpcljhbijaaGreatDoor
