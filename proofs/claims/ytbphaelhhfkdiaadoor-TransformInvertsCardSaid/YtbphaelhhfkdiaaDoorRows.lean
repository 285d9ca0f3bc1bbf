/-
  NARROWER THAN 'FOR EVERY INPUT', by the rows' own cells (each row's printed sentence says how): TransformApplies: laid · TransformSettles: laid · TransformLengths: laid · TransformPaths: laid · TransformChains: laid · TransformEncodes: laid · TransformInverts: laid.
  DERIVED. THE GIVEN ROWS OF THIS SEAT. 7 by the template 'for every input the law returns true; each argument reads behind the call as it read before'; 0 by the template 'total and deterministic' (their statements: YtbphaelhhfkdiaaDoorTotals.lean).
  GIVEN WITH THE SEED: the statements are not yours to turn. If you find one false, say at which input.
  Laid BY PROGRAM, IN A SANDBOX (cutbox-rows.mjs): the forced cells as the released guide's own fill.sh prints them over the translation 0842c77a2b90b26e… (all of the seat's roots in one cut). By AI agents, Wed Nov 11 2026. No macro, syntax, notation, axiom, sorry.
-/
import Derived.Test.YtbphaelhhfkdiaaDoorChecked
import GoSem.PinnedTables
import GoSem.Claim
import GoSem.ClaimJoined
import GoSem.ClaimMapViews
import Derived.JoinedTies
import Derived.KernelRfl
namespace Go.Proofs.YtbphaelhhfkdiaaDoor
/- THE CELL 'sum', in the pinned program and in every row, IS THE sha256 OF THE DUMP (.gsa) THAT YtbphaelhhfkdiaaDoorProg.lean LOADS. Nothing in Lean hashes anything: it is a label: what it is worth is what the hold of that sum in a sandbox is worth. -/
noncomputable def Tryd.pinned : Pinned := { name := "ytbphaelhhfkdiaadoor", sum := "0842c77a2b90b26ec9b60329b6a574dc158e3b9523ee8e134f501d1a82cbb80f", checked := Tryd.checked }
namespace Rows
def none {H : Type} : Left H := { results := [], args := [] }

/- WHAT THE LISTED PACKAGE-LEVEL VARIABLES READ AS WHEN THE CALL BEGINS. Each datum BY PROGRAM (the guide's laid-datum.mjs) off the statement by which the dump's own 'gosem.cut.vars' lays the variable. In a bare row this is a premise. The card (YtbphaelhhfkdiaaDoorCards.lean) ties it to the program's text. -/
def laid_unicode_utf8_acceptRanges {H : Type} : DataW H := .agg [.agg [.lit (.int .u8 128), .lit (.int .u8 191)], .agg [.lit (.int .u8 160), .lit (.int .u8 191)], .agg [.lit (.int .u8 128), .lit (.int .u8 159)], .agg [.lit (.int .u8 144), .lit (.int .u8 191)], .agg [.lit (.int .u8 128), .lit (.int .u8 143)], .agg [.lit (.int .u8 0), .lit (.int .u8 0)], .agg [.lit (.int .u8 0), .lit (.int .u8 0)], .agg [.lit (.int .u8 0), .lit (.int .u8 0)], .agg [.lit (.int .u8 0), .lit (.int .u8 0)], .agg [.lit (.int .u8 0), .lit (.int .u8 0)], .agg [.lit (.int .u8 0), .lit (.int .u8 0)], .agg [.lit (.int .u8 0), .lit (.int .u8 0)], .agg [.lit (.int .u8 0), .lit (.int .u8 0)], .agg [.lit (.int .u8 0), .lit (.int .u8 0)], .agg [.lit (.int .u8 0), .lit (.int .u8 0)], .agg [.lit (.int .u8 0), .lit (.int .u8 0)]]
/-- One of Go's own tables, pinned by name: the form's constant. -/
def laid_unicode_utf8_first : DataW Unit := Go.Pinned.utf8First
def laid_intrusion_transform_pads {H : Type} : DataW H := .agg [.lit (.string []), .lit (.string [61, 61]), .lit (.string [61])]

/-- 'intrusionlaw26.TransformApplies': WHATEVER THE INPUT: true; the input reads as it did. -/
def transformAppliesSpec : ChangeSpec := { name := "transformApplies", fn := fun _ => fun
  | [d1, d2] => { results := [.lit (.bool true)], args := [d1, d2] }
  | _ => none }
def transformAppliesRow : OpenClaim := { program := "ytbphaelhhfkdiaadoor", sum := "0842c77a2b90b26ec9b60329b6a574dc158e3b9523ee8e134f501d1a82cbb80f", func := "intrusion/intrusionlaw26.TransformApplies", spec := "transformApplies", inPlace := ["internal/bytealg.IndexByteString", "internal/bytealg.CountString", "internal/bytealg.IndexString", "internal/abi.NoEscape", "internal/bytealg.MakeNoZero"], unfollowed := true, recurses := true, named := ["unicode/utf8.first", "unicode/utf8.acceptRanges", "internal/bytealg.MaxLen"], apart := false, laid := [("unicode/utf8.acceptRanges", laid_unicode_utf8_acceptRanges), ("unicode/utf8.first", laid_unicode_utf8_first)] }
def TransformAppliesSaid : Prop := transformAppliesRow.holds Tryd.pinned (OpenSpec.ofChange transformAppliesSpec)

/-- ITS FALSE NEIGHBOUR: 'it returns false'. Refute it at one input. -/
def transformAppliesWrong : ChangeSpec := { name := "transformApplies", fn := fun _ => fun
  | [d1, d2] => { results := [.lit (.bool false)], args := [d1, d2] }
  | _ => none }
def TransformAppliesWrongFalsely : Prop := transformAppliesRow.holds Tryd.pinned (OpenSpec.ofChange transformAppliesWrong)

/-- 'intrusionlaw26.TransformSettles': WHATEVER THE INPUT: true; the input reads as it did. -/
def transformSettlesSpec : ChangeSpec := { name := "transformSettles", fn := fun _ => fun
  | [d] => { results := [.lit (.bool true)], args := [d] }
  | _ => none }
def transformSettlesRow : OpenClaim := { program := "ytbphaelhhfkdiaadoor", sum := "0842c77a2b90b26ec9b60329b6a574dc158e3b9523ee8e134f501d1a82cbb80f", func := "intrusion/intrusionlaw26.TransformSettles", spec := "transformSettles", inPlace := ["internal/bytealg.IndexByteString", "internal/bytealg.CountString", "internal/bytealg.IndexString", "internal/abi.NoEscape", "internal/bytealg.MakeNoZero"], unfollowed := true, recurses := true, named := ["unicode/utf8.first", "unicode/utf8.acceptRanges", "internal/bytealg.MaxLen"], apart := false, laid := [("unicode/utf8.acceptRanges", laid_unicode_utf8_acceptRanges), ("unicode/utf8.first", laid_unicode_utf8_first)] }
def TransformSettlesSaid : Prop := transformSettlesRow.holds Tryd.pinned (OpenSpec.ofChange transformSettlesSpec)

/-- ITS FALSE NEIGHBOUR: 'it returns false'. Refute it at one input. -/
def transformSettlesWrong : ChangeSpec := { name := "transformSettles", fn := fun _ => fun
  | [d] => { results := [.lit (.bool false)], args := [d] }
  | _ => none }
def TransformSettlesWrongFalsely : Prop := transformSettlesRow.holds Tryd.pinned (OpenSpec.ofChange transformSettlesWrong)

/-- 'intrusionlaw26.TransformLengths': WHATEVER THE INPUT: true; the input reads as it did. -/
def transformLengthsSpec : ChangeSpec := { name := "transformLengths", fn := fun _ => fun
  | [d1, d2] => { results := [.lit (.bool true)], args := [d1, d2] }
  | _ => none }
def transformLengthsRow : OpenClaim := { program := "ytbphaelhhfkdiaadoor", sum := "0842c77a2b90b26ec9b60329b6a574dc158e3b9523ee8e134f501d1a82cbb80f", func := "intrusion/intrusionlaw26.TransformLengths", spec := "transformLengths", inPlace := ["internal/bytealg.IndexByteString", "internal/bytealg.CountString", "internal/bytealg.IndexString", "internal/abi.NoEscape", "internal/bytealg.MakeNoZero"], unfollowed := true, recurses := true, named := ["unicode/utf8.first", "unicode/utf8.acceptRanges", "internal/bytealg.MaxLen"], apart := false, laid := [("unicode/utf8.acceptRanges", laid_unicode_utf8_acceptRanges), ("unicode/utf8.first", laid_unicode_utf8_first)] }
def TransformLengthsSaid : Prop := transformLengthsRow.holds Tryd.pinned (OpenSpec.ofChange transformLengthsSpec)

/-- ITS FALSE NEIGHBOUR: 'it returns false'. Refute it at one input. -/
def transformLengthsWrong : ChangeSpec := { name := "transformLengths", fn := fun _ => fun
  | [d1, d2] => { results := [.lit (.bool false)], args := [d1, d2] }
  | _ => none }
def TransformLengthsWrongFalsely : Prop := transformLengthsRow.holds Tryd.pinned (OpenSpec.ofChange transformLengthsWrong)

/-- 'intrusionlaw26.TransformPaths': WHATEVER THE INPUT: true; the input reads as it did. -/
def transformPathsSpec : ChangeSpec := { name := "transformPaths", fn := fun _ => fun
  | [d1, d2] => { results := [.lit (.bool true)], args := [d1, d2] }
  | _ => none }
def transformPathsRow : OpenClaim := { program := "ytbphaelhhfkdiaadoor", sum := "0842c77a2b90b26ec9b60329b6a574dc158e3b9523ee8e134f501d1a82cbb80f", func := "intrusion/intrusionlaw26.TransformPaths", spec := "transformPaths", inPlace := ["internal/bytealg.IndexByteString", "internal/bytealg.CountString", "internal/bytealg.IndexString", "internal/abi.NoEscape", "internal/bytealg.MakeNoZero"], unfollowed := true, recurses := true, named := ["unicode/utf8.first", "unicode/utf8.acceptRanges", "internal/bytealg.MaxLen"], apart := false, laid := [("unicode/utf8.acceptRanges", laid_unicode_utf8_acceptRanges), ("unicode/utf8.first", laid_unicode_utf8_first)] }
def TransformPathsSaid : Prop := transformPathsRow.holds Tryd.pinned (OpenSpec.ofChange transformPathsSpec)

/-- ITS FALSE NEIGHBOUR: 'it returns false'. Refute it at one input. -/
def transformPathsWrong : ChangeSpec := { name := "transformPaths", fn := fun _ => fun
  | [d1, d2] => { results := [.lit (.bool false)], args := [d1, d2] }
  | _ => none }
def TransformPathsWrongFalsely : Prop := transformPathsRow.holds Tryd.pinned (OpenSpec.ofChange transformPathsWrong)

/-- 'intrusionlaw26.TransformChains': WHATEVER THE INPUT: true; the input reads as it did. -/
def transformChainsSpec : ChangeSpec := { name := "transformChains", fn := fun _ => fun
  | [d1, d2, d3] => { results := [.lit (.bool true)], args := [d1, d2, d3] }
  | _ => none }
def transformChainsRow : OpenClaim := { program := "ytbphaelhhfkdiaadoor", sum := "0842c77a2b90b26ec9b60329b6a574dc158e3b9523ee8e134f501d1a82cbb80f", func := "intrusion/intrusionlaw26.TransformChains", spec := "transformChains", inPlace := ["internal/bytealg.IndexByteString", "internal/bytealg.CountString", "internal/bytealg.IndexString", "internal/abi.NoEscape", "internal/bytealg.MakeNoZero"], unfollowed := true, recurses := true, named := ["unicode/utf8.first", "unicode/utf8.acceptRanges", "internal/bytealg.MaxLen"], apart := false, laid := [("unicode/utf8.acceptRanges", laid_unicode_utf8_acceptRanges), ("unicode/utf8.first", laid_unicode_utf8_first)] }
def TransformChainsSaid : Prop := transformChainsRow.holds Tryd.pinned (OpenSpec.ofChange transformChainsSpec)

/-- ITS FALSE NEIGHBOUR: 'it returns false'. Refute it at one input. -/
def transformChainsWrong : ChangeSpec := { name := "transformChains", fn := fun _ => fun
  | [d1, d2, d3] => { results := [.lit (.bool false)], args := [d1, d2, d3] }
  | _ => none }
def TransformChainsWrongFalsely : Prop := transformChainsRow.holds Tryd.pinned (OpenSpec.ofChange transformChainsWrong)

/-- 'intrusionlaw26.TransformEncodes': WHATEVER THE INPUT: true; the input reads as it did. -/
def transformEncodesSpec : ChangeSpec := { name := "transformEncodes", fn := fun _ => fun
  | [d] => { results := [.lit (.bool true)], args := [d] }
  | _ => none }
def transformEncodesRow : OpenClaim := { program := "ytbphaelhhfkdiaadoor", sum := "0842c77a2b90b26ec9b60329b6a574dc158e3b9523ee8e134f501d1a82cbb80f", func := "intrusion/intrusionlaw26.TransformEncodes", spec := "transformEncodes", inPlace := ["internal/bytealg.IndexByteString", "internal/bytealg.CountString", "internal/bytealg.IndexString", "internal/abi.NoEscape", "internal/bytealg.MakeNoZero"], unfollowed := true, recurses := true, named := ["unicode/utf8.first", "unicode/utf8.acceptRanges", "internal/bytealg.MaxLen", "intrusion/transform.pads"], apart := false, laid := [("unicode/utf8.acceptRanges", laid_unicode_utf8_acceptRanges), ("intrusion/transform.pads", laid_intrusion_transform_pads), ("unicode/utf8.first", laid_unicode_utf8_first)] }
def TransformEncodesSaid : Prop := transformEncodesRow.holds Tryd.pinned (OpenSpec.ofChange transformEncodesSpec)

/-- ITS FALSE NEIGHBOUR: 'it returns false'. Refute it at one input. -/
def transformEncodesWrong : ChangeSpec := { name := "transformEncodes", fn := fun _ => fun
  | [d] => { results := [.lit (.bool false)], args := [d] }
  | _ => none }
def TransformEncodesWrongFalsely : Prop := transformEncodesRow.holds Tryd.pinned (OpenSpec.ofChange transformEncodesWrong)

/-- 'intrusionlaw26.TransformInverts': WHATEVER THE INPUT: true; the input reads as it did. -/
def transformInvertsSpec : ChangeSpec := { name := "transformInverts", fn := fun _ => fun
  | [d] => { results := [.lit (.bool true)], args := [d] }
  | _ => none }
def transformInvertsRow : OpenClaim := { program := "ytbphaelhhfkdiaadoor", sum := "0842c77a2b90b26ec9b60329b6a574dc158e3b9523ee8e134f501d1a82cbb80f", func := "intrusion/intrusionlaw26.TransformInverts", spec := "transformInverts", inPlace := ["internal/bytealg.IndexByteString", "internal/bytealg.CountString", "internal/bytealg.IndexString", "internal/abi.NoEscape", "internal/bytealg.MakeNoZero"], unfollowed := true, recurses := true, named := ["unicode/utf8.first", "unicode/utf8.acceptRanges", "internal/bytealg.MaxLen", "intrusion/transform.pads"], apart := false, laid := [("unicode/utf8.acceptRanges", laid_unicode_utf8_acceptRanges), ("intrusion/transform.pads", laid_intrusion_transform_pads), ("unicode/utf8.first", laid_unicode_utf8_first)] }
def TransformInvertsSaid : Prop := transformInvertsRow.holds Tryd.pinned (OpenSpec.ofChange transformInvertsSpec)

/-- ITS FALSE NEIGHBOUR: 'it returns false'. Refute it at one input. -/
def transformInvertsWrong : ChangeSpec := { name := "transformInverts", fn := fun _ => fun
  | [d] => { results := [.lit (.bool false)], args := [d] }
  | _ => none }
def TransformInvertsWrongFalsely : Prop := transformInvertsRow.holds Tryd.pinned (OpenSpec.ofChange transformInvertsWrong)

/- THE SECOND FORM. 'bulk': how many values and letters a reading holds, each counted each time it is reached (what is shared counts as often as it is met; a slice's spare places count too). A statement '..UptoSaid' is the law's where the arguments, and the package variables that the reading takes, are together of bulk at most 1048576: NARROWER than '..Said'. Prove '..Said' where nothing that the law and all that it calls make is longer than what came in: it says more and counts as full. Else prove '..UptoSaid'. A law counts once. -/
mutual
def uptoBulk {H : Type} : DataW H → Nat
  | .lit (.string bytes) => bytes.length + 1
  | .lit _ => 1
  | .nil => 1
  | .ptr d => uptoBulk d + 1
  | .slice elems spare => uptoBulkAll elems + uptoBulkAll spare + 1
  | .agg parts => uptoBulkAll parts + 1
  | .iface _ d => uptoBulk d + 1
  | .map entries => uptoBulkEntries entries + 1
  | .held _ => 1
def uptoBulkAll {H : Type} : List (DataW H) → Nat
  | [] => 0
  | d :: r => uptoBulk d + uptoBulkAll r
def uptoBulkEntries {H : Type} : List (Lit × DataW H) → Nat
  | [] => 0
  | x :: r => uptoBulkEntry x + uptoBulkEntries r
def uptoBulkEntry {H : Type} : Lit × DataW H → Nat
  | (.string bytes, d) => bytes.length + uptoBulk d + 1
  | (_, d) => uptoBulk d + 1
 end
def uptoSmall : (H : Type) → List (DataW H) → Bool := fun _ ds => decide (uptoBulkAll ds ≤ 1048576)
def OpenSpec.upto (s : _root_.Go.ChangeSpec) : _root_.Go.OpenSpec := { _root_.Go.OpenSpec.ofChange s with cond := some uptoSmall }

/-- 'intrusionlaw26.TransformApplies', WHERE WHAT IT READS IS OF BULK AT MOST 1048576: true; the input reads as it did. -/
def transformAppliesUptoRow : OpenClaim := { program := "ytbphaelhhfkdiaadoor", sum := "0842c77a2b90b26ec9b60329b6a574dc158e3b9523ee8e134f501d1a82cbb80f", func := "intrusion/intrusionlaw26.TransformApplies", spec := "transformApplies", inPlace := ["internal/bytealg.IndexByteString", "internal/bytealg.CountString", "internal/bytealg.IndexString", "internal/abi.NoEscape", "internal/bytealg.MakeNoZero"], unfollowed := true, recurses := true, named := ["unicode/utf8.first", "unicode/utf8.acceptRanges", "internal/bytealg.MaxLen"], apart := false, laid := [("unicode/utf8.acceptRanges", laid_unicode_utf8_acceptRanges), ("unicode/utf8.first", laid_unicode_utf8_first)], narrowed := true }
def TransformAppliesUptoSaid : Prop := transformAppliesUptoRow.holds Tryd.pinned (OpenSpec.upto transformAppliesSpec)

/-- 'intrusionlaw26.TransformSettles', WHERE WHAT IT READS IS OF BULK AT MOST 1048576: true; the input reads as it did. -/
def transformSettlesUptoRow : OpenClaim := { program := "ytbphaelhhfkdiaadoor", sum := "0842c77a2b90b26ec9b60329b6a574dc158e3b9523ee8e134f501d1a82cbb80f", func := "intrusion/intrusionlaw26.TransformSettles", spec := "transformSettles", inPlace := ["internal/bytealg.IndexByteString", "internal/bytealg.CountString", "internal/bytealg.IndexString", "internal/abi.NoEscape", "internal/bytealg.MakeNoZero"], unfollowed := true, recurses := true, named := ["unicode/utf8.first", "unicode/utf8.acceptRanges", "internal/bytealg.MaxLen"], apart := false, laid := [("unicode/utf8.acceptRanges", laid_unicode_utf8_acceptRanges), ("unicode/utf8.first", laid_unicode_utf8_first)], narrowed := true }
def TransformSettlesUptoSaid : Prop := transformSettlesUptoRow.holds Tryd.pinned (OpenSpec.upto transformSettlesSpec)

/-- 'intrusionlaw26.TransformLengths', WHERE WHAT IT READS IS OF BULK AT MOST 1048576: true; the input reads as it did. -/
def transformLengthsUptoRow : OpenClaim := { program := "ytbphaelhhfkdiaadoor", sum := "0842c77a2b90b26ec9b60329b6a574dc158e3b9523ee8e134f501d1a82cbb80f", func := "intrusion/intrusionlaw26.TransformLengths", spec := "transformLengths", inPlace := ["internal/bytealg.IndexByteString", "internal/bytealg.CountString", "internal/bytealg.IndexString", "internal/abi.NoEscape", "internal/bytealg.MakeNoZero"], unfollowed := true, recurses := true, named := ["unicode/utf8.first", "unicode/utf8.acceptRanges", "internal/bytealg.MaxLen"], apart := false, laid := [("unicode/utf8.acceptRanges", laid_unicode_utf8_acceptRanges), ("unicode/utf8.first", laid_unicode_utf8_first)], narrowed := true }
def TransformLengthsUptoSaid : Prop := transformLengthsUptoRow.holds Tryd.pinned (OpenSpec.upto transformLengthsSpec)

/-- 'intrusionlaw26.TransformPaths', WHERE WHAT IT READS IS OF BULK AT MOST 1048576: true; the input reads as it did. -/
def transformPathsUptoRow : OpenClaim := { program := "ytbphaelhhfkdiaadoor", sum := "0842c77a2b90b26ec9b60329b6a574dc158e3b9523ee8e134f501d1a82cbb80f", func := "intrusion/intrusionlaw26.TransformPaths", spec := "transformPaths", inPlace := ["internal/bytealg.IndexByteString", "internal/bytealg.CountString", "internal/bytealg.IndexString", "internal/abi.NoEscape", "internal/bytealg.MakeNoZero"], unfollowed := true, recurses := true, named := ["unicode/utf8.first", "unicode/utf8.acceptRanges", "internal/bytealg.MaxLen"], apart := false, laid := [("unicode/utf8.acceptRanges", laid_unicode_utf8_acceptRanges), ("unicode/utf8.first", laid_unicode_utf8_first)], narrowed := true }
def TransformPathsUptoSaid : Prop := transformPathsUptoRow.holds Tryd.pinned (OpenSpec.upto transformPathsSpec)

/-- 'intrusionlaw26.TransformChains', WHERE WHAT IT READS IS OF BULK AT MOST 1048576: true; the input reads as it did. -/
def transformChainsUptoRow : OpenClaim := { program := "ytbphaelhhfkdiaadoor", sum := "0842c77a2b90b26ec9b60329b6a574dc158e3b9523ee8e134f501d1a82cbb80f", func := "intrusion/intrusionlaw26.TransformChains", spec := "transformChains", inPlace := ["internal/bytealg.IndexByteString", "internal/bytealg.CountString", "internal/bytealg.IndexString", "internal/abi.NoEscape", "internal/bytealg.MakeNoZero"], unfollowed := true, recurses := true, named := ["unicode/utf8.first", "unicode/utf8.acceptRanges", "internal/bytealg.MaxLen"], apart := false, laid := [("unicode/utf8.acceptRanges", laid_unicode_utf8_acceptRanges), ("unicode/utf8.first", laid_unicode_utf8_first)], narrowed := true }
def TransformChainsUptoSaid : Prop := transformChainsUptoRow.holds Tryd.pinned (OpenSpec.upto transformChainsSpec)

/-- 'intrusionlaw26.TransformEncodes', WHERE WHAT IT READS IS OF BULK AT MOST 1048576: true; the input reads as it did. -/
def transformEncodesUptoRow : OpenClaim := { program := "ytbphaelhhfkdiaadoor", sum := "0842c77a2b90b26ec9b60329b6a574dc158e3b9523ee8e134f501d1a82cbb80f", func := "intrusion/intrusionlaw26.TransformEncodes", spec := "transformEncodes", inPlace := ["internal/bytealg.IndexByteString", "internal/bytealg.CountString", "internal/bytealg.IndexString", "internal/abi.NoEscape", "internal/bytealg.MakeNoZero"], unfollowed := true, recurses := true, named := ["unicode/utf8.first", "unicode/utf8.acceptRanges", "internal/bytealg.MaxLen", "intrusion/transform.pads"], apart := false, laid := [("unicode/utf8.acceptRanges", laid_unicode_utf8_acceptRanges), ("intrusion/transform.pads", laid_intrusion_transform_pads), ("unicode/utf8.first", laid_unicode_utf8_first)], narrowed := true }
def TransformEncodesUptoSaid : Prop := transformEncodesUptoRow.holds Tryd.pinned (OpenSpec.upto transformEncodesSpec)

/-- 'intrusionlaw26.TransformInverts', WHERE WHAT IT READS IS OF BULK AT MOST 1048576: true; the input reads as it did. -/
def transformInvertsUptoRow : OpenClaim := { program := "ytbphaelhhfkdiaadoor", sum := "0842c77a2b90b26ec9b60329b6a574dc158e3b9523ee8e134f501d1a82cbb80f", func := "intrusion/intrusionlaw26.TransformInverts", spec := "transformInverts", inPlace := ["internal/bytealg.IndexByteString", "internal/bytealg.CountString", "internal/bytealg.IndexString", "internal/abi.NoEscape", "internal/bytealg.MakeNoZero"], unfollowed := true, recurses := true, named := ["unicode/utf8.first", "unicode/utf8.acceptRanges", "internal/bytealg.MaxLen", "intrusion/transform.pads"], apart := false, laid := [("unicode/utf8.acceptRanges", laid_unicode_utf8_acceptRanges), ("intrusion/transform.pads", laid_intrusion_transform_pads), ("unicode/utf8.first", laid_unicode_utf8_first)], narrowed := true }
def TransformInvertsUptoSaid : Prop := transformInvertsUptoRow.holds Tryd.pinned (OpenSpec.upto transformInvertsSpec)

end Rows
end Go.Proofs.YtbphaelhhfkdiaaDoor
