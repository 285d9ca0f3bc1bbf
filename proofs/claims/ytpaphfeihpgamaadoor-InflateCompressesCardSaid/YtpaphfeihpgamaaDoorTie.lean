/-
  DERIVED. GIVEN WITH THE SEED: THE PROGRAM's TIES (one call each: nine closed facts by the kernel) AND EACH ROW's TIE, after the 31st guide's Derived/Test/Toyas{Tie, Card}.lean. No idea stands in it: it is a product of the set-up. Laid BY PROGRAM, IN A SANDBOX (cutbox-door.mjs). By AI agents, Wed Nov 11 2026. No macro, syntax, notation, axiom, sorry.
-/
import Derived.Test.YtpaphfeihpgamaaDoorRows
import Derived.LaidByTextLater
import Derived.SevenTiedAt
import Derived.LaidSub
import Derived.LaidOnce
namespace Go.Proofs.YtpaphfeihpgamaaDoor
open Go
set_option maxRecDepth 100000
theorem seatTie1 : Tryd.prog.laidByTextLater [("bytes.ErrTooLarge", Rows.laid_bytes_ErrTooLarge), ("intrusion/inflate.order", Rows.laid_intrusion_inflate_order)] [.sentinel, .widerDeep] true :=
  Program.laidByTextLater_by_one 33 8 20 (by kernel_rfl) (by kernel_rfl) (by kernel_rfl) (by kernel_rfl) (by kernel_rfl) (by kernel_rfl) (fun _ _ => by kernel_rfl)
theorem noOwnUnsafe : Tryd.pinned.checked.prog.headLifts.contains "ownunsafe" = false := by kernel_rfl
theorem tie : Tryd.prog.laidByTextLater [("bytes.ErrTooLarge", Rows.laid_bytes_ErrTooLarge), ("intrusion/inflate.order", Rows.laid_intrusion_inflate_order)] [.sentinel, .widerDeep] true :=
  Program.laidByTextLater.sub seatTie1 ["bytes.ErrTooLarge", "intrusion/inflate.order"] (by kernel_rfl) (by kernel_rfl)
theorem inflateAll_row_tie : Rows.inflateAllRow.laidByTextAt .later Tryd.pinned [.sentinel, .widerDeep] true :=
  OpenClaim.laidByTextAt_later rfl rfl tie noOwnUnsafe
theorem inflateCompresses_row_tie : Rows.inflateCompressesRow.laidByTextAt .later Tryd.pinned [.sentinel, .widerDeep] true :=
  OpenClaim.laidByTextAt_later rfl rfl tie noOwnUnsafe
theorem inflateCuts_row_tie : Rows.inflateCutsRow.laidByTextAt .later Tryd.pinned [.sentinel, .widerDeep] true :=
  OpenClaim.laidByTextAt_later rfl rfl tie noOwnUnsafe
theorem inflateBudgets_row_tie : Rows.inflateBudgetsRow.laidByTextAt .later Tryd.pinned [.sentinel, .widerDeep] true :=
  OpenClaim.laidByTextAt_later rfl rfl tie noOwnUnsafe
theorem inflateFeeds_row_tie : Rows.inflateFeedsRow.laidByTextAt .later Tryd.pinned [.sentinel, .widerDeep] true :=
  OpenClaim.laidByTextAt_later rfl rfl tie noOwnUnsafe
theorem inflateRoundTrip_row_tie : Rows.inflateRoundTripRow.laidByTextAt .later Tryd.pinned [.sentinel, .widerDeep] true :=
  OpenClaim.laidByTextAt_later rfl rfl tie noOwnUnsafe
theorem inflateAllUpto_row_tie : Rows.inflateAllUptoRow.laidByTextAt .later Tryd.pinned [.sentinel, .widerDeep] true :=
  OpenClaim.laidByTextAt_later rfl rfl tie noOwnUnsafe
theorem inflateCompressesUpto_row_tie : Rows.inflateCompressesUptoRow.laidByTextAt .later Tryd.pinned [.sentinel, .widerDeep] true :=
  OpenClaim.laidByTextAt_later rfl rfl tie noOwnUnsafe
theorem inflateCutsUpto_row_tie : Rows.inflateCutsUptoRow.laidByTextAt .later Tryd.pinned [.sentinel, .widerDeep] true :=
  OpenClaim.laidByTextAt_later rfl rfl tie noOwnUnsafe
theorem inflateBudgetsUpto_row_tie : Rows.inflateBudgetsUptoRow.laidByTextAt .later Tryd.pinned [.sentinel, .widerDeep] true :=
  OpenClaim.laidByTextAt_later rfl rfl tie noOwnUnsafe
theorem inflateFeedsUpto_row_tie : Rows.inflateFeedsUptoRow.laidByTextAt .later Tryd.pinned [.sentinel, .widerDeep] true :=
  OpenClaim.laidByTextAt_later rfl rfl tie noOwnUnsafe
theorem inflateRoundTripUpto_row_tie : Rows.inflateRoundTripUptoRow.laidByTextAt .later Tryd.pinned [.sentinel, .widerDeep] true :=
  OpenClaim.laidByTextAt_later rfl rfl tie noOwnUnsafe
end Go.Proofs.YtpaphfeihpgamaaDoor
