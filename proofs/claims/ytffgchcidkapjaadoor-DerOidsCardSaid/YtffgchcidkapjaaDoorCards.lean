/-
  DERIVED. GIVEN WITH THE SEED: THE CARDS: each row of YtffgchcidkapjaaDoorRows.lean that lists a variable, with what it lists TIED to the program's text (the seventh form; the later family's looks); each row that meets fmt, with fmt's text TOLD by the authors' own Lean function (tested against real Go, not proved from fmt's source: count such statements apart). THE CARD IS WHAT COUNTS. Prove the row's statement (the work); the ties are given (YtffgchcidkapjaaDoorTie.lean); close each card by the builder's one call (the guide's Derived/Test/ToyasCard.lean, 'card_holds'). Laid BY PROGRAM, IN A SANDBOX (cutbox-door.mjs). By AI agents, Wed Nov 11 2026. No macro, syntax, notation, axiom, sorry.
-/
import Derived.Test.YtffgchcidkapjaaDoorRows
import GoSem.ClaimSeven
namespace Go.Proofs.YtffgchcidkapjaaDoor
namespace Rows

/-- THE TIED CARD OF 'intrusionlaw33.DerDecodes'. -/
def derDecodesCard : Claim7 := { stood := { row := derDecodesRow, standIns := [], harness := (true, "89394a7965f5db61d2706caa4f0979e589dba65adee78c42f4fac3b05a9386df"), looks := false }, kinds := [], alts := [], laidByText := true, laidKinds := [.data, .pinned], laidTests := true, laidLooks := .later }
def DerDecodesCardSaid : Prop := Claim7.holds Tryd.pinned (.plain (OpenSpec.ofChange derDecodesSpec)) derDecodesCard

/-- THE TIED CARD OF 'intrusionlaw33.DerEncodes'. -/
def derEncodesCard : Claim7 := { stood := { row := derEncodesRow, standIns := [], harness := (true, "89394a7965f5db61d2706caa4f0979e589dba65adee78c42f4fac3b05a9386df"), looks := false }, kinds := [], alts := [], laidByText := true, laidKinds := [.data, .pinned], laidTests := true, laidLooks := .later }
def DerEncodesCardSaid : Prop := Claim7.holds Tryd.pinned (.plain (OpenSpec.ofChange derEncodesSpec)) derEncodesCard

/-- THE TIED CARD OF 'intrusionlaw33.DerNumbers'. -/
def derNumbersCard : Claim7 := { stood := { row := derNumbersRow, standIns := [], harness := (true, "89394a7965f5db61d2706caa4f0979e589dba65adee78c42f4fac3b05a9386df"), looks := false }, kinds := [], alts := [], laidByText := true, laidKinds := [.data, .pinned], laidTests := true, laidLooks := .later }
def DerNumbersCardSaid : Prop := Claim7.holds Tryd.pinned (.plain (OpenSpec.ofChange derNumbersSpec)) derNumbersCard

/-- THE TIED CARD OF 'intrusionlaw33.DerTimes'. -/
def derTimesCard : Claim7 := { stood := { row := derTimesRow, standIns := [], harness := (true, "89394a7965f5db61d2706caa4f0979e589dba65adee78c42f4fac3b05a9386df"), looks := false }, kinds := [], alts := [], laidByText := true, laidKinds := [.data, .pinned], laidTests := true, laidLooks := .later }
def DerTimesCardSaid : Prop := Claim7.holds Tryd.pinned (.plain (OpenSpec.ofChange derTimesSpec)) derTimesCard

/-- THE TIED CARD OF 'intrusionlaw33.DerRoundTrip'. -/
def derRoundTripCard : Claim7 := { stood := { row := derRoundTripRow, standIns := [], harness := (true, "89394a7965f5db61d2706caa4f0979e589dba65adee78c42f4fac3b05a9386df"), looks := false }, kinds := [], alts := [], laidByText := true, laidKinds := [.data, .pinned], laidTests := true, laidLooks := .later }
def DerRoundTripCardSaid : Prop := Claim7.holds Tryd.pinned (.plain (OpenSpec.ofChange derRoundTripSpec)) derRoundTripCard

/-- THE TIED CARD OF 'intrusionlaw33.DerClock'. -/
def derClockCard : Claim7 := { stood := { row := derClockRow, standIns := [], harness := (true, "89394a7965f5db61d2706caa4f0979e589dba65adee78c42f4fac3b05a9386df"), looks := false }, kinds := [], alts := [], laidByText := true, laidKinds := [.data, .pinned], laidTests := true, laidLooks := .later }
def DerClockCardSaid : Prop := Claim7.holds Tryd.pinned (.plain (OpenSpec.ofChange derClockSpec)) derClockCard

/-- THE TIED CARD OF 'intrusionlaw33.DerOids'. -/
def derOidsCard : Claim7 := { stood := { row := derOidsRow, standIns := [], harness := (true, "89394a7965f5db61d2706caa4f0979e589dba65adee78c42f4fac3b05a9386df"), looks := false }, kinds := [], alts := [], laidByText := true, laidKinds := [.data, .data, .data, .data, .pinned], laidTests := true, laidLooks := .later }
def DerOidsCardSaid : Prop := Claim7.holds Tryd.pinned (.plain (OpenSpec.ofChange derOidsSpec)) derOidsCard

/-- THE TIED CARD OF 'intrusionlaw33.DerInverse'. -/
def derInverseCard : Claim7 := { stood := { row := derInverseRow, standIns := [], harness := (true, "89394a7965f5db61d2706caa4f0979e589dba65adee78c42f4fac3b05a9386df"), looks := false }, kinds := [], alts := [], laidByText := true, laidKinds := [.data, .data, .data, .data, .pinned], laidTests := true, laidLooks := .later }
def DerInverseCardSaid : Prop := Claim7.holds Tryd.pinned (.plain (OpenSpec.ofChange derInverseSpec)) derInverseCard

/-- THE SECOND FORM's CARD OF 'intrusionlaw33.DerDecodes'. -/
def derDecodesUptoCard : Claim7 := { stood := { row := derDecodesUptoRow, standIns := [], harness := (true, "89394a7965f5db61d2706caa4f0979e589dba65adee78c42f4fac3b05a9386df"), looks := false }, kinds := [], alts := [], laidByText := true, laidKinds := [.data, .pinned], laidTests := true, laidLooks := .later }
def DerDecodesUptoCardSaid : Prop := Claim7.holds Tryd.pinned (.plain (OpenSpec.upto derDecodesSpec)) derDecodesUptoCard

/-- THE SECOND FORM's CARD OF 'intrusionlaw33.DerEncodes'. -/
def derEncodesUptoCard : Claim7 := { stood := { row := derEncodesUptoRow, standIns := [], harness := (true, "89394a7965f5db61d2706caa4f0979e589dba65adee78c42f4fac3b05a9386df"), looks := false }, kinds := [], alts := [], laidByText := true, laidKinds := [.data, .pinned], laidTests := true, laidLooks := .later }
def DerEncodesUptoCardSaid : Prop := Claim7.holds Tryd.pinned (.plain (OpenSpec.upto derEncodesSpec)) derEncodesUptoCard

/-- THE SECOND FORM's CARD OF 'intrusionlaw33.DerNumbers'. -/
def derNumbersUptoCard : Claim7 := { stood := { row := derNumbersUptoRow, standIns := [], harness := (true, "89394a7965f5db61d2706caa4f0979e589dba65adee78c42f4fac3b05a9386df"), looks := false }, kinds := [], alts := [], laidByText := true, laidKinds := [.data, .pinned], laidTests := true, laidLooks := .later }
def DerNumbersUptoCardSaid : Prop := Claim7.holds Tryd.pinned (.plain (OpenSpec.upto derNumbersSpec)) derNumbersUptoCard

/-- THE SECOND FORM's CARD OF 'intrusionlaw33.DerTimes'. -/
def derTimesUptoCard : Claim7 := { stood := { row := derTimesUptoRow, standIns := [], harness := (true, "89394a7965f5db61d2706caa4f0979e589dba65adee78c42f4fac3b05a9386df"), looks := false }, kinds := [], alts := [], laidByText := true, laidKinds := [.data, .pinned], laidTests := true, laidLooks := .later }
def DerTimesUptoCardSaid : Prop := Claim7.holds Tryd.pinned (.plain (OpenSpec.upto derTimesSpec)) derTimesUptoCard

/-- THE SECOND FORM's CARD OF 'intrusionlaw33.DerRoundTrip'. -/
def derRoundTripUptoCard : Claim7 := { stood := { row := derRoundTripUptoRow, standIns := [], harness := (true, "89394a7965f5db61d2706caa4f0979e589dba65adee78c42f4fac3b05a9386df"), looks := false }, kinds := [], alts := [], laidByText := true, laidKinds := [.data, .pinned], laidTests := true, laidLooks := .later }
def DerRoundTripUptoCardSaid : Prop := Claim7.holds Tryd.pinned (.plain (OpenSpec.upto derRoundTripSpec)) derRoundTripUptoCard

/-- THE SECOND FORM's CARD OF 'intrusionlaw33.DerClock'. -/
def derClockUptoCard : Claim7 := { stood := { row := derClockUptoRow, standIns := [], harness := (true, "89394a7965f5db61d2706caa4f0979e589dba65adee78c42f4fac3b05a9386df"), looks := false }, kinds := [], alts := [], laidByText := true, laidKinds := [.data, .pinned], laidTests := true, laidLooks := .later }
def DerClockUptoCardSaid : Prop := Claim7.holds Tryd.pinned (.plain (OpenSpec.upto derClockSpec)) derClockUptoCard

/-- THE SECOND FORM's CARD OF 'intrusionlaw33.DerOids'. -/
def derOidsUptoCard : Claim7 := { stood := { row := derOidsUptoRow, standIns := [], harness := (true, "89394a7965f5db61d2706caa4f0979e589dba65adee78c42f4fac3b05a9386df"), looks := false }, kinds := [], alts := [], laidByText := true, laidKinds := [.data, .data, .data, .data, .pinned], laidTests := true, laidLooks := .later }
def DerOidsUptoCardSaid : Prop := Claim7.holds Tryd.pinned (.plain (OpenSpec.upto derOidsSpec)) derOidsUptoCard

/-- THE SECOND FORM's CARD OF 'intrusionlaw33.DerInverse'. -/
def derInverseUptoCard : Claim7 := { stood := { row := derInverseUptoRow, standIns := [], harness := (true, "89394a7965f5db61d2706caa4f0979e589dba65adee78c42f4fac3b05a9386df"), looks := false }, kinds := [], alts := [], laidByText := true, laidKinds := [.data, .data, .data, .data, .pinned], laidTests := true, laidLooks := .later }
def DerInverseUptoCardSaid : Prop := Claim7.holds Tryd.pinned (.plain (OpenSpec.upto derInverseSpec)) derInverseUptoCard
end Rows
end Go.Proofs.YtffgchcidkapjaaDoor
