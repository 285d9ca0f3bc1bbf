/-
  DERIVED. GIVEN WITH THE SEED: THE CARDS: each row of YtcdkpkkdolmfdaaGreatDoorRows.lean that lists a variable, with what it lists TIED to the program's text (the seventh form; the later family's looks); each row that meets fmt, with fmt's text TOLD by the authors' own Lean function (tested against real Go, not proved from fmt's source: count such statements apart). THE CARD IS WHAT COUNTS. Prove the row's statement (the work); the ties are given (YtcdkpkkdolmfdaaGreatDoorTie.lean); close each card by the builder's one call (the guide's Derived/Test/ToyasCard.lean, 'card_holds'). Laid BY PROGRAM, IN A SANDBOX (cutbox-door.mjs). By AI agents, Wed Nov 11 2026. No macro, syntax, notation, axiom, sorry.
-/
import Derived.Test.YtcdkpkkdolmfdaaGreatDoorRows
import GoSem.ClaimSeven
namespace Go.Proofs.YtcdkpkkdolmfdaaGreatDoor
namespace Rows

/-- THE TIED CARD OF 'intrusionlaw34.CertificateParses'. -/
def certificateParsesCard : Claim7 := { stood := { row := certificateParsesRow, standIns := [], harness := (true, "3482959089b261991fb2b6f2d682982b6b5272cb3c5d182e87b08171cabdc4b5"), looks := true }, kinds := [], alts := [], laidByText := true, laidKinds := [.data, .data, .data, .data, .data, .wider, .wider, .wider, .wider, .wider, .wider, .wider, .wider, .wider, .pinned], laidTests := true, laidLooks := .later }
def CertificateParsesCardSaid : Prop := Claim7.holds Tryz.pinned (.plain (OpenSpec.ofChange certificateParsesSpec)) certificateParsesCard

/-- THE TIED CARD OF 'intrusionlaw34.CertificateReads'. -/
def certificateReadsCard : Claim7 := { stood := { row := certificateReadsRow, standIns := [], harness := (true, "3482959089b261991fb2b6f2d682982b6b5272cb3c5d182e87b08171cabdc4b5"), looks := true }, kinds := [], alts := [], laidByText := true, laidKinds := [.data, .data, .data, .data, .data, .wider, .wider, .wider, .wider, .wider, .wider, .wider, .wider, .wider, .pinned], laidTests := true, laidLooks := .later }
def CertificateReadsCardSaid : Prop := Claim7.holds Tryz.pinned (.plain (OpenSpec.ofChange certificateReadsSpec)) certificateReadsCard

/-- THE TIED CARD OF 'intrusionlaw34.CertificateBuilds'. -/
def certificateBuildsCard : Claim7 := { stood := { row := certificateBuildsRow, standIns := [], harness := (true, "3482959089b261991fb2b6f2d682982b6b5272cb3c5d182e87b08171cabdc4b5"), looks := true }, kinds := [], alts := [], laidByText := true, laidKinds := [.data, .data, .data, .data, .data, .wider, .wider, .wider, .wider, .wider, .wider, .wider, .wider, .wider, .pinned], laidTests := true, laidLooks := .later }
def CertificateBuildsCardSaid : Prop := Claim7.holds Tryz.pinned (.plain (OpenSpec.ofChange certificateBuildsSpec)) certificateBuildsCard

/-- THE TIED CARD OF 'intrusionlaw34.CertificateRoundTrip'. -/
def certificateRoundTripCard : Claim7 := { stood := { row := certificateRoundTripRow, standIns := [], harness := (true, "3482959089b261991fb2b6f2d682982b6b5272cb3c5d182e87b08171cabdc4b5"), looks := true }, kinds := [], alts := [], laidByText := true, laidKinds := [.data, .data, .data, .data, .data, .wider, .wider, .wider, .wider, .wider, .wider, .wider, .wider, .wider, .pinned], laidTests := true, laidLooks := .later }
def CertificateRoundTripCardSaid : Prop := Claim7.holds Tryz.pinned (.plain (OpenSpec.ofChange certificateRoundTripSpec)) certificateRoundTripCard

/-- THE SECOND FORM's CARD OF 'intrusionlaw34.CertificateParses'. -/
def certificateParsesUptoCard : Claim7 := { stood := { row := certificateParsesUptoRow, standIns := [], harness := (true, "3482959089b261991fb2b6f2d682982b6b5272cb3c5d182e87b08171cabdc4b5"), looks := true }, kinds := [], alts := [], laidByText := true, laidKinds := [.data, .data, .data, .data, .data, .wider, .wider, .wider, .wider, .wider, .wider, .wider, .wider, .wider, .pinned], laidTests := true, laidLooks := .later }
def CertificateParsesUptoCardSaid : Prop := Claim7.holds Tryz.pinned (.plain (OpenSpec.upto certificateParsesSpec)) certificateParsesUptoCard

/-- THE SECOND FORM's CARD OF 'intrusionlaw34.CertificateReads'. -/
def certificateReadsUptoCard : Claim7 := { stood := { row := certificateReadsUptoRow, standIns := [], harness := (true, "3482959089b261991fb2b6f2d682982b6b5272cb3c5d182e87b08171cabdc4b5"), looks := true }, kinds := [], alts := [], laidByText := true, laidKinds := [.data, .data, .data, .data, .data, .wider, .wider, .wider, .wider, .wider, .wider, .wider, .wider, .wider, .pinned], laidTests := true, laidLooks := .later }
def CertificateReadsUptoCardSaid : Prop := Claim7.holds Tryz.pinned (.plain (OpenSpec.upto certificateReadsSpec)) certificateReadsUptoCard

/-- THE SECOND FORM's CARD OF 'intrusionlaw34.CertificateBuilds'. -/
def certificateBuildsUptoCard : Claim7 := { stood := { row := certificateBuildsUptoRow, standIns := [], harness := (true, "3482959089b261991fb2b6f2d682982b6b5272cb3c5d182e87b08171cabdc4b5"), looks := true }, kinds := [], alts := [], laidByText := true, laidKinds := [.data, .data, .data, .data, .data, .wider, .wider, .wider, .wider, .wider, .wider, .wider, .wider, .wider, .pinned], laidTests := true, laidLooks := .later }
def CertificateBuildsUptoCardSaid : Prop := Claim7.holds Tryz.pinned (.plain (OpenSpec.upto certificateBuildsSpec)) certificateBuildsUptoCard

/-- THE SECOND FORM's CARD OF 'intrusionlaw34.CertificateRoundTrip'. -/
def certificateRoundTripUptoCard : Claim7 := { stood := { row := certificateRoundTripUptoRow, standIns := [], harness := (true, "3482959089b261991fb2b6f2d682982b6b5272cb3c5d182e87b08171cabdc4b5"), looks := true }, kinds := [], alts := [], laidByText := true, laidKinds := [.data, .data, .data, .data, .data, .wider, .wider, .wider, .wider, .wider, .wider, .wider, .wider, .wider, .pinned], laidTests := true, laidLooks := .later }
def CertificateRoundTripUptoCardSaid : Prop := Claim7.holds Tryz.pinned (.plain (OpenSpec.upto certificateRoundTripSpec)) certificateRoundTripUptoCard
end Rows
end Go.Proofs.YtcdkpkkdolmfdaaGreatDoor
