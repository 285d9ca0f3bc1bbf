/-
  DERIVED. GIVEN WITH THE SEED: THE CARDS: each row of YtbphaelhhfkdiaaDoorRows.lean that lists a variable, with what it lists TIED to the program's text (the seventh form; the later family's looks); each row that meets fmt, with fmt's text TOLD by the authors' own Lean function (tested against real Go, not proved from fmt's source: count such statements apart). THE CARD IS WHAT COUNTS. Prove the row's statement (the work); the ties are given (YtbphaelhhfkdiaaDoorTie.lean); close each card by the builder's one call (the guide's Derived/Test/ToyasCard.lean, 'card_holds'). Laid BY PROGRAM, IN A SANDBOX (cutbox-door.mjs). By AI agents, Wed Nov 11 2026. No macro, syntax, notation, axiom, sorry.
-/
import Derived.Test.YtbphaelhhfkdiaaDoorRows
import GoSem.ClaimSeven
namespace Go.Proofs.YtbphaelhhfkdiaaDoor
namespace Rows

/-- THE TIED CARD OF 'intrusionlaw26.TransformApplies'. -/
def transformAppliesCard : Claim7 := { stood := { row := transformAppliesRow, standIns := [], harness := (true, "c90bbb0f3f5da5028e245a9fdb82e0dcd0294708431a658e0c4b3188bf4ff850"), looks := false }, kinds := [], alts := [], laidByText := true, laidKinds := [.data, .pinned], laidTests := true, laidLooks := .later }
def TransformAppliesCardSaid : Prop := Claim7.holds Tryd.pinned (.plain (OpenSpec.ofChange transformAppliesSpec)) transformAppliesCard

/-- THE TIED CARD OF 'intrusionlaw26.TransformSettles'. -/
def transformSettlesCard : Claim7 := { stood := { row := transformSettlesRow, standIns := [], harness := (true, "c90bbb0f3f5da5028e245a9fdb82e0dcd0294708431a658e0c4b3188bf4ff850"), looks := false }, kinds := [], alts := [], laidByText := true, laidKinds := [.data, .pinned], laidTests := true, laidLooks := .later }
def TransformSettlesCardSaid : Prop := Claim7.holds Tryd.pinned (.plain (OpenSpec.ofChange transformSettlesSpec)) transformSettlesCard

/-- THE TIED CARD OF 'intrusionlaw26.TransformLengths'. -/
def transformLengthsCard : Claim7 := { stood := { row := transformLengthsRow, standIns := [], harness := (true, "c90bbb0f3f5da5028e245a9fdb82e0dcd0294708431a658e0c4b3188bf4ff850"), looks := false }, kinds := [], alts := [], laidByText := true, laidKinds := [.data, .pinned], laidTests := true, laidLooks := .later }
def TransformLengthsCardSaid : Prop := Claim7.holds Tryd.pinned (.plain (OpenSpec.ofChange transformLengthsSpec)) transformLengthsCard

/-- THE TIED CARD OF 'intrusionlaw26.TransformPaths'. -/
def transformPathsCard : Claim7 := { stood := { row := transformPathsRow, standIns := [], harness := (true, "c90bbb0f3f5da5028e245a9fdb82e0dcd0294708431a658e0c4b3188bf4ff850"), looks := false }, kinds := [], alts := [], laidByText := true, laidKinds := [.data, .pinned], laidTests := true, laidLooks := .later }
def TransformPathsCardSaid : Prop := Claim7.holds Tryd.pinned (.plain (OpenSpec.ofChange transformPathsSpec)) transformPathsCard

/-- THE TIED CARD OF 'intrusionlaw26.TransformChains'. -/
def transformChainsCard : Claim7 := { stood := { row := transformChainsRow, standIns := [], harness := (true, "c90bbb0f3f5da5028e245a9fdb82e0dcd0294708431a658e0c4b3188bf4ff850"), looks := false }, kinds := [], alts := [], laidByText := true, laidKinds := [.data, .pinned], laidTests := true, laidLooks := .later }
def TransformChainsCardSaid : Prop := Claim7.holds Tryd.pinned (.plain (OpenSpec.ofChange transformChainsSpec)) transformChainsCard

/-- THE TIED CARD OF 'intrusionlaw26.TransformEncodes'. -/
def transformEncodesCard : Claim7 := { stood := { row := transformEncodesRow, standIns := [], harness := (true, "c90bbb0f3f5da5028e245a9fdb82e0dcd0294708431a658e0c4b3188bf4ff850"), looks := false }, kinds := [], alts := [], laidByText := true, laidKinds := [.data, .data, .pinned], laidTests := true, laidLooks := .later }
def TransformEncodesCardSaid : Prop := Claim7.holds Tryd.pinned (.plain (OpenSpec.ofChange transformEncodesSpec)) transformEncodesCard

/-- THE TIED CARD OF 'intrusionlaw26.TransformInverts'. -/
def transformInvertsCard : Claim7 := { stood := { row := transformInvertsRow, standIns := [], harness := (true, "c90bbb0f3f5da5028e245a9fdb82e0dcd0294708431a658e0c4b3188bf4ff850"), looks := false }, kinds := [], alts := [], laidByText := true, laidKinds := [.data, .data, .pinned], laidTests := true, laidLooks := .later }
def TransformInvertsCardSaid : Prop := Claim7.holds Tryd.pinned (.plain (OpenSpec.ofChange transformInvertsSpec)) transformInvertsCard

/-- THE SECOND FORM's CARD OF 'intrusionlaw26.TransformApplies'. -/
def transformAppliesUptoCard : Claim7 := { stood := { row := transformAppliesUptoRow, standIns := [], harness := (true, "c90bbb0f3f5da5028e245a9fdb82e0dcd0294708431a658e0c4b3188bf4ff850"), looks := false }, kinds := [], alts := [], laidByText := true, laidKinds := [.data, .pinned], laidTests := true, laidLooks := .later }
def TransformAppliesUptoCardSaid : Prop := Claim7.holds Tryd.pinned (.plain (OpenSpec.upto transformAppliesSpec)) transformAppliesUptoCard

/-- THE SECOND FORM's CARD OF 'intrusionlaw26.TransformSettles'. -/
def transformSettlesUptoCard : Claim7 := { stood := { row := transformSettlesUptoRow, standIns := [], harness := (true, "c90bbb0f3f5da5028e245a9fdb82e0dcd0294708431a658e0c4b3188bf4ff850"), looks := false }, kinds := [], alts := [], laidByText := true, laidKinds := [.data, .pinned], laidTests := true, laidLooks := .later }
def TransformSettlesUptoCardSaid : Prop := Claim7.holds Tryd.pinned (.plain (OpenSpec.upto transformSettlesSpec)) transformSettlesUptoCard

/-- THE SECOND FORM's CARD OF 'intrusionlaw26.TransformLengths'. -/
def transformLengthsUptoCard : Claim7 := { stood := { row := transformLengthsUptoRow, standIns := [], harness := (true, "c90bbb0f3f5da5028e245a9fdb82e0dcd0294708431a658e0c4b3188bf4ff850"), looks := false }, kinds := [], alts := [], laidByText := true, laidKinds := [.data, .pinned], laidTests := true, laidLooks := .later }
def TransformLengthsUptoCardSaid : Prop := Claim7.holds Tryd.pinned (.plain (OpenSpec.upto transformLengthsSpec)) transformLengthsUptoCard

/-- THE SECOND FORM's CARD OF 'intrusionlaw26.TransformPaths'. -/
def transformPathsUptoCard : Claim7 := { stood := { row := transformPathsUptoRow, standIns := [], harness := (true, "c90bbb0f3f5da5028e245a9fdb82e0dcd0294708431a658e0c4b3188bf4ff850"), looks := false }, kinds := [], alts := [], laidByText := true, laidKinds := [.data, .pinned], laidTests := true, laidLooks := .later }
def TransformPathsUptoCardSaid : Prop := Claim7.holds Tryd.pinned (.plain (OpenSpec.upto transformPathsSpec)) transformPathsUptoCard

/-- THE SECOND FORM's CARD OF 'intrusionlaw26.TransformChains'. -/
def transformChainsUptoCard : Claim7 := { stood := { row := transformChainsUptoRow, standIns := [], harness := (true, "c90bbb0f3f5da5028e245a9fdb82e0dcd0294708431a658e0c4b3188bf4ff850"), looks := false }, kinds := [], alts := [], laidByText := true, laidKinds := [.data, .pinned], laidTests := true, laidLooks := .later }
def TransformChainsUptoCardSaid : Prop := Claim7.holds Tryd.pinned (.plain (OpenSpec.upto transformChainsSpec)) transformChainsUptoCard

/-- THE SECOND FORM's CARD OF 'intrusionlaw26.TransformEncodes'. -/
def transformEncodesUptoCard : Claim7 := { stood := { row := transformEncodesUptoRow, standIns := [], harness := (true, "c90bbb0f3f5da5028e245a9fdb82e0dcd0294708431a658e0c4b3188bf4ff850"), looks := false }, kinds := [], alts := [], laidByText := true, laidKinds := [.data, .data, .pinned], laidTests := true, laidLooks := .later }
def TransformEncodesUptoCardSaid : Prop := Claim7.holds Tryd.pinned (.plain (OpenSpec.upto transformEncodesSpec)) transformEncodesUptoCard

/-- THE SECOND FORM's CARD OF 'intrusionlaw26.TransformInverts'. -/
def transformInvertsUptoCard : Claim7 := { stood := { row := transformInvertsUptoRow, standIns := [], harness := (true, "c90bbb0f3f5da5028e245a9fdb82e0dcd0294708431a658e0c4b3188bf4ff850"), looks := false }, kinds := [], alts := [], laidByText := true, laidKinds := [.data, .data, .pinned], laidTests := true, laidLooks := .later }
def TransformInvertsUptoCardSaid : Prop := Claim7.holds Tryd.pinned (.plain (OpenSpec.upto transformInvertsSpec)) transformInvertsUptoCard
end Rows
end Go.Proofs.YtbphaelhhfkdiaaDoor
