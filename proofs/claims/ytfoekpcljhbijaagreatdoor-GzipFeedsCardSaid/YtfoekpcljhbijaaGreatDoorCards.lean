/-
  DERIVED. GIVEN WITH THE SEED: THE CARDS: each row of YtfoekpcljhbijaaGreatDoorRows.lean that lists a variable, with what it lists TIED to the program's text (the seventh form; the later family's looks); each row that meets fmt, with fmt's text TOLD by the authors' own Lean function (tested against real Go, not proved from fmt's source: count such statements apart). THE CARD IS WHAT COUNTS. Prove the row's statement (the work); the ties are given (YtfoekpcljhbijaaGreatDoorTie.lean); close each card by the builder's one call (the guide's Derived/Test/ToyasCard.lean, 'card_holds'). Laid BY PROGRAM, IN A SANDBOX (cutbox-door.mjs). By AI agents, Wed Nov 11 2026. No macro, syntax, notation, axiom, sorry.
-/
import Derived.Test.YtfoekpcljhbijaaGreatDoorRows
import GoSem.ClaimSeven
namespace Go.Proofs.YtfoekpcljhbijaaGreatDoor
namespace Rows

/-- THE TIED CARD OF 'intrusionlaw38.GzipFeeds'. -/
def gzipFeedsCard : Claim7 := { stood := { row := gzipFeedsRow, standIns := [], harness := (true, "d0be1eb3d875face704ce01773e1340240fa5eb03b5ee339aa3e5f44fd3a9b23"), looks := false }, kinds := [], alts := [], laidByText := true, laidKinds := [.sentinel, .widerDeep], laidTests := true, laidLooks := .later }
def GzipFeedsCardSaid : Prop := Claim7.holds Tryz.pinned (.plain (OpenSpec.ofChange gzipFeedsSpec)) gzipFeedsCard

/-- THE TIED CARD OF 'intrusionlaw38.GzipAlls'. -/
def gzipAllsCard : Claim7 := { stood := { row := gzipAllsRow, standIns := [], harness := (true, "d0be1eb3d875face704ce01773e1340240fa5eb03b5ee339aa3e5f44fd3a9b23"), looks := false }, kinds := [], alts := [], laidByText := true, laidKinds := [.sentinel, .widerDeep], laidTests := true, laidLooks := .later }
def GzipAllsCardSaid : Prop := Claim7.holds Tryz.pinned (.plain (OpenSpec.ofChange gzipAllsSpec)) gzipAllsCard

/-- THE TIED CARD OF 'intrusionlaw38.GzipRoundTrip'. -/
def gzipRoundTripCard : Claim7 := { stood := { row := gzipRoundTripRow, standIns := [], harness := (true, "d0be1eb3d875face704ce01773e1340240fa5eb03b5ee339aa3e5f44fd3a9b23"), looks := false }, kinds := [], alts := [], laidByText := true, laidKinds := [.sentinel, .widerDeep], laidTests := true, laidLooks := .later }
def GzipRoundTripCardSaid : Prop := Claim7.holds Tryz.pinned (.plain (OpenSpec.ofChange gzipRoundTripSpec)) gzipRoundTripCard

/-- THE TIED CARD OF 'intrusionlaw38.GzipPieces'. -/
def gzipPiecesCard : Claim7 := { stood := { row := gzipPiecesRow, standIns := [], harness := (true, "d0be1eb3d875face704ce01773e1340240fa5eb03b5ee339aa3e5f44fd3a9b23"), looks := false }, kinds := [], alts := [], laidByText := true, laidKinds := [.sentinel, .widerDeep], laidTests := true, laidLooks := .later }
def GzipPiecesCardSaid : Prop := Claim7.holds Tryz.pinned (.plain (OpenSpec.ofChange gzipPiecesSpec)) gzipPiecesCard

/-- THE TIED CARD OF 'intrusionlaw38.GzipNone'. -/
def gzipNoneCard : Claim7 := { stood := { row := gzipNoneRow, standIns := [], harness := (true, "d0be1eb3d875face704ce01773e1340240fa5eb03b5ee339aa3e5f44fd3a9b23"), looks := false }, kinds := [], alts := [], laidByText := true, laidKinds := [.sentinel, .widerDeep], laidTests := true, laidLooks := .later }
def GzipNoneCardSaid : Prop := Claim7.holds Tryz.pinned (.plain (OpenSpec.ofChange gzipNoneSpec)) gzipNoneCard

/-- THE TIED CARD OF 'intrusionlaw38.GzipParts'. -/
def gzipPartsCard : Claim7 := { stood := { row := gzipPartsRow, standIns := [], harness := (true, "d0be1eb3d875face704ce01773e1340240fa5eb03b5ee339aa3e5f44fd3a9b23"), looks := false }, kinds := [], alts := [], laidByText := true, laidKinds := [.sentinel, .widerDeep], laidTests := true, laidLooks := .later }
def GzipPartsCardSaid : Prop := Claim7.holds Tryz.pinned (.plain (OpenSpec.ofChange gzipPartsSpec)) gzipPartsCard

/-- THE SECOND FORM's CARD OF 'intrusionlaw38.GzipFeeds'. -/
def gzipFeedsUptoCard : Claim7 := { stood := { row := gzipFeedsUptoRow, standIns := [], harness := (true, "d0be1eb3d875face704ce01773e1340240fa5eb03b5ee339aa3e5f44fd3a9b23"), looks := false }, kinds := [], alts := [], laidByText := true, laidKinds := [.sentinel, .widerDeep], laidTests := true, laidLooks := .later }
def GzipFeedsUptoCardSaid : Prop := Claim7.holds Tryz.pinned (.plain (OpenSpec.upto gzipFeedsSpec)) gzipFeedsUptoCard

/-- THE SECOND FORM's CARD OF 'intrusionlaw38.GzipAlls'. -/
def gzipAllsUptoCard : Claim7 := { stood := { row := gzipAllsUptoRow, standIns := [], harness := (true, "d0be1eb3d875face704ce01773e1340240fa5eb03b5ee339aa3e5f44fd3a9b23"), looks := false }, kinds := [], alts := [], laidByText := true, laidKinds := [.sentinel, .widerDeep], laidTests := true, laidLooks := .later }
def GzipAllsUptoCardSaid : Prop := Claim7.holds Tryz.pinned (.plain (OpenSpec.upto gzipAllsSpec)) gzipAllsUptoCard

/-- THE SECOND FORM's CARD OF 'intrusionlaw38.GzipRoundTrip'. -/
def gzipRoundTripUptoCard : Claim7 := { stood := { row := gzipRoundTripUptoRow, standIns := [], harness := (true, "d0be1eb3d875face704ce01773e1340240fa5eb03b5ee339aa3e5f44fd3a9b23"), looks := false }, kinds := [], alts := [], laidByText := true, laidKinds := [.sentinel, .widerDeep], laidTests := true, laidLooks := .later }
def GzipRoundTripUptoCardSaid : Prop := Claim7.holds Tryz.pinned (.plain (OpenSpec.upto gzipRoundTripSpec)) gzipRoundTripUptoCard

/-- THE SECOND FORM's CARD OF 'intrusionlaw38.GzipPieces'. -/
def gzipPiecesUptoCard : Claim7 := { stood := { row := gzipPiecesUptoRow, standIns := [], harness := (true, "d0be1eb3d875face704ce01773e1340240fa5eb03b5ee339aa3e5f44fd3a9b23"), looks := false }, kinds := [], alts := [], laidByText := true, laidKinds := [.sentinel, .widerDeep], laidTests := true, laidLooks := .later }
def GzipPiecesUptoCardSaid : Prop := Claim7.holds Tryz.pinned (.plain (OpenSpec.upto gzipPiecesSpec)) gzipPiecesUptoCard

/-- THE SECOND FORM's CARD OF 'intrusionlaw38.GzipNone'. -/
def gzipNoneUptoCard : Claim7 := { stood := { row := gzipNoneUptoRow, standIns := [], harness := (true, "d0be1eb3d875face704ce01773e1340240fa5eb03b5ee339aa3e5f44fd3a9b23"), looks := false }, kinds := [], alts := [], laidByText := true, laidKinds := [.sentinel, .widerDeep], laidTests := true, laidLooks := .later }
def GzipNoneUptoCardSaid : Prop := Claim7.holds Tryz.pinned (.plain (OpenSpec.upto gzipNoneSpec)) gzipNoneUptoCard

/-- THE SECOND FORM's CARD OF 'intrusionlaw38.GzipParts'. -/
def gzipPartsUptoCard : Claim7 := { stood := { row := gzipPartsUptoRow, standIns := [], harness := (true, "d0be1eb3d875face704ce01773e1340240fa5eb03b5ee339aa3e5f44fd3a9b23"), looks := false }, kinds := [], alts := [], laidByText := true, laidKinds := [.sentinel, .widerDeep], laidTests := true, laidLooks := .later }
def GzipPartsUptoCardSaid : Prop := Claim7.holds Tryz.pinned (.plain (OpenSpec.upto gzipPartsSpec)) gzipPartsUptoCard
end Rows
end Go.Proofs.YtfoekpcljhbijaaGreatDoor
