/-
  DERIVED. GIVEN WITH THE SEED: THE CARDS: each row of YtomghnmoomodiaaGreatDoorRows.lean that lists a variable, with what it lists TIED to the program's text (the seventh form; the later family's looks); each row that meets fmt, with fmt's text TOLD by the authors' own Lean function (tested against real Go, not proved from fmt's source: count such statements apart). THE CARD IS WHAT COUNTS. Prove the row's statement (the work); the ties are given (YtomghnmoomodiaaGreatDoorTie.lean); close each card by the builder's one call (the guide's Derived/Test/ToyasCard.lean, 'card_holds'). Laid BY PROGRAM, IN A SANDBOX (cutbox-door.mjs). By AI agents, Wed Nov 11 2026. No macro, syntax, notation, axiom, sorry.
-/
import Derived.Test.YtomghnmoomodiaaGreatDoorRows
import GoSem.ClaimSeven
namespace Go.Proofs.YtomghnmoomodiaaGreatDoor
namespace Rows

/-- THE TIED CARD OF 'intrusionlaw35.CertcheckMatches'. -/
def certcheckMatchesCard : Claim7 := { stood := { row := certcheckMatchesRow, standIns := [], harness := (true, "7d020791e19fc10d9a5c1c8eee908425b5ea29a318b6806677eeff07f2acad3f"), looks := true }, kinds := [], alts := [], laidByText := true, laidKinds := [.data, .data, .data, .data, .data, .wider, .wider, .pinned], laidTests := true, laidLooks := .later }
def CertcheckMatchesCardSaid : Prop := Claim7.holds Tryz.pinned (.plain (OpenSpec.ofChange certcheckMatchesSpec)) certcheckMatchesCard

/-- THE TIED CARD OF 'intrusionlaw35.CertcheckFinds'. -/
def certcheckFindsCard : Claim7 := { stood := { row := certcheckFindsRow, standIns := [], harness := (true, "7d020791e19fc10d9a5c1c8eee908425b5ea29a318b6806677eeff07f2acad3f"), looks := true }, kinds := [], alts := [], laidByText := true, laidKinds := [.data, .data, .data, .data, .data, .wider, .wider, .pinned], laidTests := true, laidLooks := .later }
def CertcheckFindsCardSaid : Prop := Claim7.holds Tryz.pinned (.plain (OpenSpec.ofChange certcheckFindsSpec)) certcheckFindsCard

/-- THE TIED CARD OF 'intrusionlaw35.CertcheckTexts'. -/
def certcheckTextsCard : Claim7 := { stood := { row := certcheckTextsRow, standIns := [], harness := (true, "7d020791e19fc10d9a5c1c8eee908425b5ea29a318b6806677eeff07f2acad3f"), looks := true }, kinds := [], alts := [], laidByText := true, laidKinds := [.data, .data, .data, .data, .data, .wider, .wider, .pinned], laidTests := true, laidLooks := .later }
def CertcheckTextsCardSaid : Prop := Claim7.holds Tryz.pinned (.plain (OpenSpec.ofChange certcheckTextsSpec)) certcheckTextsCard

/-- THE TIED CARD OF 'intrusionlaw35.CertcheckTrusts'. -/
def certcheckTrustsCard : Claim7 := { stood := { row := certcheckTrustsRow, standIns := [], harness := (true, "7d020791e19fc10d9a5c1c8eee908425b5ea29a318b6806677eeff07f2acad3f"), looks := true }, kinds := [], alts := [], laidByText := true, laidKinds := [.data, .data, .data, .data, .data, .wider, .wider, .pinned], laidTests := true, laidLooks := .later }
def CertcheckTrustsCardSaid : Prop := Claim7.holds Tryz.pinned (.plain (OpenSpec.ofChange certcheckTrustsSpec)) certcheckTrustsCard

/-- THE TIED CARD OF 'intrusionlaw35.CertcheckGrows'. -/
def certcheckGrowsCard : Claim7 := { stood := { row := certcheckGrowsRow, standIns := [], harness := (true, "7d020791e19fc10d9a5c1c8eee908425b5ea29a318b6806677eeff07f2acad3f"), looks := true }, kinds := [], alts := [], laidByText := true, laidKinds := [.data, .data, .data, .data, .data, .wider, .wider, .pinned], laidTests := true, laidLooks := .later }
def CertcheckGrowsCardSaid : Prop := Claim7.holds Tryz.pinned (.plain (OpenSpec.ofChange certcheckGrowsSpec)) certcheckGrowsCard

/-- THE TIED CARD OF 'intrusionlaw35.CertcheckParts'. -/
def certcheckPartsCard : Claim7 := { stood := { row := certcheckPartsRow, standIns := [], harness := (true, "7d020791e19fc10d9a5c1c8eee908425b5ea29a318b6806677eeff07f2acad3f"), looks := true }, kinds := [], alts := [], laidByText := true, laidKinds := [.data, .data, .data, .data, .data, .wider, .wider, .pinned], laidTests := true, laidLooks := .later }
def CertcheckPartsCardSaid : Prop := Claim7.holds Tryz.pinned (.plain (OpenSpec.ofChange certcheckPartsSpec)) certcheckPartsCard

/-- THE SECOND FORM's CARD OF 'intrusionlaw35.CertcheckMatches'. -/
def certcheckMatchesUptoCard : Claim7 := { stood := { row := certcheckMatchesUptoRow, standIns := [], harness := (true, "7d020791e19fc10d9a5c1c8eee908425b5ea29a318b6806677eeff07f2acad3f"), looks := true }, kinds := [], alts := [], laidByText := true, laidKinds := [.data, .data, .data, .data, .data, .wider, .wider, .pinned], laidTests := true, laidLooks := .later }
def CertcheckMatchesUptoCardSaid : Prop := Claim7.holds Tryz.pinned (.plain (OpenSpec.upto certcheckMatchesSpec)) certcheckMatchesUptoCard

/-- THE SECOND FORM's CARD OF 'intrusionlaw35.CertcheckFinds'. -/
def certcheckFindsUptoCard : Claim7 := { stood := { row := certcheckFindsUptoRow, standIns := [], harness := (true, "7d020791e19fc10d9a5c1c8eee908425b5ea29a318b6806677eeff07f2acad3f"), looks := true }, kinds := [], alts := [], laidByText := true, laidKinds := [.data, .data, .data, .data, .data, .wider, .wider, .pinned], laidTests := true, laidLooks := .later }
def CertcheckFindsUptoCardSaid : Prop := Claim7.holds Tryz.pinned (.plain (OpenSpec.upto certcheckFindsSpec)) certcheckFindsUptoCard

/-- THE SECOND FORM's CARD OF 'intrusionlaw35.CertcheckTexts'. -/
def certcheckTextsUptoCard : Claim7 := { stood := { row := certcheckTextsUptoRow, standIns := [], harness := (true, "7d020791e19fc10d9a5c1c8eee908425b5ea29a318b6806677eeff07f2acad3f"), looks := true }, kinds := [], alts := [], laidByText := true, laidKinds := [.data, .data, .data, .data, .data, .wider, .wider, .pinned], laidTests := true, laidLooks := .later }
def CertcheckTextsUptoCardSaid : Prop := Claim7.holds Tryz.pinned (.plain (OpenSpec.upto certcheckTextsSpec)) certcheckTextsUptoCard

/-- THE SECOND FORM's CARD OF 'intrusionlaw35.CertcheckTrusts'. -/
def certcheckTrustsUptoCard : Claim7 := { stood := { row := certcheckTrustsUptoRow, standIns := [], harness := (true, "7d020791e19fc10d9a5c1c8eee908425b5ea29a318b6806677eeff07f2acad3f"), looks := true }, kinds := [], alts := [], laidByText := true, laidKinds := [.data, .data, .data, .data, .data, .wider, .wider, .pinned], laidTests := true, laidLooks := .later }
def CertcheckTrustsUptoCardSaid : Prop := Claim7.holds Tryz.pinned (.plain (OpenSpec.upto certcheckTrustsSpec)) certcheckTrustsUptoCard

/-- THE SECOND FORM's CARD OF 'intrusionlaw35.CertcheckGrows'. -/
def certcheckGrowsUptoCard : Claim7 := { stood := { row := certcheckGrowsUptoRow, standIns := [], harness := (true, "7d020791e19fc10d9a5c1c8eee908425b5ea29a318b6806677eeff07f2acad3f"), looks := true }, kinds := [], alts := [], laidByText := true, laidKinds := [.data, .data, .data, .data, .data, .wider, .wider, .pinned], laidTests := true, laidLooks := .later }
def CertcheckGrowsUptoCardSaid : Prop := Claim7.holds Tryz.pinned (.plain (OpenSpec.upto certcheckGrowsSpec)) certcheckGrowsUptoCard

/-- THE SECOND FORM's CARD OF 'intrusionlaw35.CertcheckParts'. -/
def certcheckPartsUptoCard : Claim7 := { stood := { row := certcheckPartsUptoRow, standIns := [], harness := (true, "7d020791e19fc10d9a5c1c8eee908425b5ea29a318b6806677eeff07f2acad3f"), looks := true }, kinds := [], alts := [], laidByText := true, laidKinds := [.data, .data, .data, .data, .data, .wider, .wider, .pinned], laidTests := true, laidLooks := .later }
def CertcheckPartsUptoCardSaid : Prop := Claim7.holds Tryz.pinned (.plain (OpenSpec.upto certcheckPartsSpec)) certcheckPartsUptoCard
end Rows
end Go.Proofs.YtomghnmoomodiaaGreatDoor
