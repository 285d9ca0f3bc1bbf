/-
  DERIVED. GIVEN WITH THE SEED: THE CARDS: each row of YtpaphfeihpgamaaDoorRows.lean that lists a variable, with what it lists TIED to the program's text (the seventh form; the later family's looks); each row that meets fmt, with fmt's text TOLD by the authors' own Lean function (tested against real Go, not proved from fmt's source: count such statements apart). THE CARD IS WHAT COUNTS. Prove the row's statement (the work); the ties are given (YtpaphfeihpgamaaDoorTie.lean); close each card by the builder's one call (the guide's Derived/Test/ToyasCard.lean, 'card_holds'). Laid BY PROGRAM, IN A SANDBOX (cutbox-door.mjs). By AI agents, Wed Nov 11 2026. No macro, syntax, notation, axiom, sorry.
-/
import Derived.Test.YtpaphfeihpgamaaDoorRows
import GoSem.ClaimSeven
namespace Go.Proofs.YtpaphfeihpgamaaDoor
namespace Rows

/-- THE TIED CARD OF 'intrusionlaw37.InflateAll'. -/
def inflateAllCard : Claim7 := { stood := { row := inflateAllRow, standIns := [], harness := (true, "7ed0433dfaeb4e681036ddff4ef400ae83581c89bfe1980b98075eab6fbfe540"), looks := false }, kinds := [], alts := [], laidByText := true, laidKinds := [.sentinel, .widerDeep], laidTests := true, laidLooks := .later }
def InflateAllCardSaid : Prop := Claim7.holds Tryd.pinned (.plain (OpenSpec.ofChange inflateAllSpec)) inflateAllCard

/-- THE TIED CARD OF 'intrusionlaw37.InflateCompresses'. -/
def inflateCompressesCard : Claim7 := { stood := { row := inflateCompressesRow, standIns := [], harness := (true, "7ed0433dfaeb4e681036ddff4ef400ae83581c89bfe1980b98075eab6fbfe540"), looks := false }, kinds := [], alts := [], laidByText := true, laidKinds := [.sentinel, .widerDeep], laidTests := true, laidLooks := .later }
def InflateCompressesCardSaid : Prop := Claim7.holds Tryd.pinned (.plain (OpenSpec.ofChange inflateCompressesSpec)) inflateCompressesCard

/-- THE TIED CARD OF 'intrusionlaw37.InflateCuts'. -/
def inflateCutsCard : Claim7 := { stood := { row := inflateCutsRow, standIns := [], harness := (true, "7ed0433dfaeb4e681036ddff4ef400ae83581c89bfe1980b98075eab6fbfe540"), looks := false }, kinds := [], alts := [], laidByText := true, laidKinds := [.sentinel, .widerDeep], laidTests := true, laidLooks := .later }
def InflateCutsCardSaid : Prop := Claim7.holds Tryd.pinned (.plain (OpenSpec.ofChange inflateCutsSpec)) inflateCutsCard

/-- THE TIED CARD OF 'intrusionlaw37.InflateBudgets'. -/
def inflateBudgetsCard : Claim7 := { stood := { row := inflateBudgetsRow, standIns := [], harness := (true, "7ed0433dfaeb4e681036ddff4ef400ae83581c89bfe1980b98075eab6fbfe540"), looks := false }, kinds := [], alts := [], laidByText := true, laidKinds := [.sentinel, .widerDeep], laidTests := true, laidLooks := .later }
def InflateBudgetsCardSaid : Prop := Claim7.holds Tryd.pinned (.plain (OpenSpec.ofChange inflateBudgetsSpec)) inflateBudgetsCard

/-- THE TIED CARD OF 'intrusionlaw37.InflateFeeds'. -/
def inflateFeedsCard : Claim7 := { stood := { row := inflateFeedsRow, standIns := [], harness := (true, "7ed0433dfaeb4e681036ddff4ef400ae83581c89bfe1980b98075eab6fbfe540"), looks := false }, kinds := [], alts := [], laidByText := true, laidKinds := [.sentinel, .widerDeep], laidTests := true, laidLooks := .later }
def InflateFeedsCardSaid : Prop := Claim7.holds Tryd.pinned (.plain (OpenSpec.ofChange inflateFeedsSpec)) inflateFeedsCard

/-- THE TIED CARD OF 'intrusionlaw37.InflateRoundTrip'. -/
def inflateRoundTripCard : Claim7 := { stood := { row := inflateRoundTripRow, standIns := [], harness := (true, "7ed0433dfaeb4e681036ddff4ef400ae83581c89bfe1980b98075eab6fbfe540"), looks := false }, kinds := [], alts := [], laidByText := true, laidKinds := [.sentinel, .widerDeep], laidTests := true, laidLooks := .later }
def InflateRoundTripCardSaid : Prop := Claim7.holds Tryd.pinned (.plain (OpenSpec.ofChange inflateRoundTripSpec)) inflateRoundTripCard

/-- THE SECOND FORM's CARD OF 'intrusionlaw37.InflateAll'. -/
def inflateAllUptoCard : Claim7 := { stood := { row := inflateAllUptoRow, standIns := [], harness := (true, "7ed0433dfaeb4e681036ddff4ef400ae83581c89bfe1980b98075eab6fbfe540"), looks := false }, kinds := [], alts := [], laidByText := true, laidKinds := [.sentinel, .widerDeep], laidTests := true, laidLooks := .later }
def InflateAllUptoCardSaid : Prop := Claim7.holds Tryd.pinned (.plain (OpenSpec.upto inflateAllSpec)) inflateAllUptoCard

/-- THE SECOND FORM's CARD OF 'intrusionlaw37.InflateCompresses'. -/
def inflateCompressesUptoCard : Claim7 := { stood := { row := inflateCompressesUptoRow, standIns := [], harness := (true, "7ed0433dfaeb4e681036ddff4ef400ae83581c89bfe1980b98075eab6fbfe540"), looks := false }, kinds := [], alts := [], laidByText := true, laidKinds := [.sentinel, .widerDeep], laidTests := true, laidLooks := .later }
def InflateCompressesUptoCardSaid : Prop := Claim7.holds Tryd.pinned (.plain (OpenSpec.upto inflateCompressesSpec)) inflateCompressesUptoCard

/-- THE SECOND FORM's CARD OF 'intrusionlaw37.InflateCuts'. -/
def inflateCutsUptoCard : Claim7 := { stood := { row := inflateCutsUptoRow, standIns := [], harness := (true, "7ed0433dfaeb4e681036ddff4ef400ae83581c89bfe1980b98075eab6fbfe540"), looks := false }, kinds := [], alts := [], laidByText := true, laidKinds := [.sentinel, .widerDeep], laidTests := true, laidLooks := .later }
def InflateCutsUptoCardSaid : Prop := Claim7.holds Tryd.pinned (.plain (OpenSpec.upto inflateCutsSpec)) inflateCutsUptoCard

/-- THE SECOND FORM's CARD OF 'intrusionlaw37.InflateBudgets'. -/
def inflateBudgetsUptoCard : Claim7 := { stood := { row := inflateBudgetsUptoRow, standIns := [], harness := (true, "7ed0433dfaeb4e681036ddff4ef400ae83581c89bfe1980b98075eab6fbfe540"), looks := false }, kinds := [], alts := [], laidByText := true, laidKinds := [.sentinel, .widerDeep], laidTests := true, laidLooks := .later }
def InflateBudgetsUptoCardSaid : Prop := Claim7.holds Tryd.pinned (.plain (OpenSpec.upto inflateBudgetsSpec)) inflateBudgetsUptoCard

/-- THE SECOND FORM's CARD OF 'intrusionlaw37.InflateFeeds'. -/
def inflateFeedsUptoCard : Claim7 := { stood := { row := inflateFeedsUptoRow, standIns := [], harness := (true, "7ed0433dfaeb4e681036ddff4ef400ae83581c89bfe1980b98075eab6fbfe540"), looks := false }, kinds := [], alts := [], laidByText := true, laidKinds := [.sentinel, .widerDeep], laidTests := true, laidLooks := .later }
def InflateFeedsUptoCardSaid : Prop := Claim7.holds Tryd.pinned (.plain (OpenSpec.upto inflateFeedsSpec)) inflateFeedsUptoCard

/-- THE SECOND FORM's CARD OF 'intrusionlaw37.InflateRoundTrip'. -/
def inflateRoundTripUptoCard : Claim7 := { stood := { row := inflateRoundTripUptoRow, standIns := [], harness := (true, "7ed0433dfaeb4e681036ddff4ef400ae83581c89bfe1980b98075eab6fbfe540"), looks := false }, kinds := [], alts := [], laidByText := true, laidKinds := [.sentinel, .widerDeep], laidTests := true, laidLooks := .later }
def InflateRoundTripUptoCardSaid : Prop := Claim7.holds Tryd.pinned (.plain (OpenSpec.upto inflateRoundTripSpec)) inflateRoundTripUptoCard
end Rows
end Go.Proofs.YtpaphfeihpgamaaDoor
