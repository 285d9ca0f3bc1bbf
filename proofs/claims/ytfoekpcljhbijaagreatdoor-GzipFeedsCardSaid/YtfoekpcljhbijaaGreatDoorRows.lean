/-
  NARROWER THAN 'FOR EVERY INPUT', by the rows' own cells (each row's printed sentence says how): GzipFeeds: laid · GzipAlls: laid · GzipRoundTrip: laid · GzipPieces: laid · GzipNone: laid · GzipParts: laid.
  DERIVED. THE GIVEN ROWS OF THIS SEAT. 6 by the template 'for every input the law returns true; each argument reads behind the call as it read before'; 0 by the template 'total and deterministic' (their statements: YtfoekpcljhbijaaGreatDoorTotals.lean).
  GIVEN WITH THE SEED: the statements are not yours to turn. If you find one false, say at which input.
  Laid BY PROGRAM, IN A SANDBOX (cutbox-rows.mjs): the forced cells as the released guide's own fill.sh prints them over the translation 594ba5f9cc22c3ea… (all of the seat's roots in one cut). By AI agents, Wed Nov 11 2026. No macro, syntax, notation, axiom, sorry.
-/
import Derived.Test.YtfoekpcljhbijaaGreatDoorChecked
import GoSem.Claim
import GoSem.ClaimJoined
import GoSem.ClaimMapViews
import Derived.JoinedTies
import Derived.KernelRfl
namespace Go.Proofs.YtfoekpcljhbijaaGreatDoor
/- THE CELL 'sum', in the pinned program and in every row, IS THE sha256 OF THE DUMP (.gsa) THAT YtfoekpcljhbijaaGreatDoorProg.lean LOADS. Nothing in Lean hashes anything: it is a label: what it is worth is what the hold of that sum in a sandbox is worth. -/
noncomputable def Tryz.pinned : Pinned := { name := "ytfoekpcljhbijaagreatdoor", sum := "594ba5f9cc22c3eab49d8feb0cb8972fa9b6bed723fae1d0ad8ea97258a137b4", checked := Tryz.checked }
namespace Rows
def none {H : Type} : Left H := { results := [], args := [] }

/- WHAT THE LISTED PACKAGE-LEVEL VARIABLES READ AS WHEN THE CALL BEGINS. Each datum BY PROGRAM (the guide's laid-datum.mjs) off the statement by which the dump's own 'gosem.cut.vars' lays the variable. In a bare row this is a premise. The card (YtfoekpcljhbijaaGreatDoorCards.lean) ties it to the program's text. -/
def laid_bytes_ErrTooLarge {H : Type} : DataW H := .iface "*errors.errorString" (.ptr (.agg [.lit (.string [98, 121, 116, 101, 115, 46, 66, 117, 102, 102, 101, 114, 58, 32, 116, 111, 111, 32, 108, 97, 114, 103, 101])]))
def laid_intrusion_inflate_order {H : Type} : DataW H := .agg [.lit (.int .i64 16), .lit (.int .i64 17), .lit (.int .i64 18), .lit (.int .i64 0), .lit (.int .i64 8), .lit (.int .i64 7), .lit (.int .i64 9), .lit (.int .i64 6), .lit (.int .i64 10), .lit (.int .i64 5), .lit (.int .i64 11), .lit (.int .i64 4), .lit (.int .i64 12), .lit (.int .i64 3), .lit (.int .i64 13), .lit (.int .i64 2), .lit (.int .i64 14), .lit (.int .i64 1), .lit (.int .i64 15)]

/-- 'intrusionlaw38.GzipFeeds': WHATEVER THE INPUT: true; the input reads as it did. -/
def gzipFeedsSpec : ChangeSpec := { name := "gzipFeeds", fn := fun _ => fun
  | [d1, d2] => { results := [.lit (.bool true)], args := [d1, d2] }
  | _ => none }
def gzipFeedsRow : OpenClaim := { program := "ytfoekpcljhbijaagreatdoor", sum := "594ba5f9cc22c3eab49d8feb0cb8972fa9b6bed723fae1d0ad8ea97258a137b4", func := "intrusion/intrusionlaw38.GzipFeeds", spec := "gzipFeeds", inPlace := ["internal/bytealg.IndexByteString", "internal/bytealg.IndexString", "internal/abi.NoEscape"], unfollowed := true, recurses := true, named := ["internal/bytealg.MaxLen", "bytes.ErrTooLarge", "intrusion/inflate.order"], apart := false, laid := [("bytes.ErrTooLarge", laid_bytes_ErrTooLarge), ("intrusion/inflate.order", laid_intrusion_inflate_order)] }
def GzipFeedsSaid : Prop := gzipFeedsRow.holds Tryz.pinned (OpenSpec.ofChange gzipFeedsSpec)

/-- ITS FALSE NEIGHBOUR: 'it returns false'. Refute it at one input. -/
def gzipFeedsWrong : ChangeSpec := { name := "gzipFeeds", fn := fun _ => fun
  | [d1, d2] => { results := [.lit (.bool false)], args := [d1, d2] }
  | _ => none }
def GzipFeedsWrongFalsely : Prop := gzipFeedsRow.holds Tryz.pinned (OpenSpec.ofChange gzipFeedsWrong)

/-- 'intrusionlaw38.GzipAlls': WHATEVER THE INPUT: true; the input reads as it did. -/
def gzipAllsSpec : ChangeSpec := { name := "gzipAlls", fn := fun _ => fun
  | [d1, d2] => { results := [.lit (.bool true)], args := [d1, d2] }
  | _ => none }
def gzipAllsRow : OpenClaim := { program := "ytfoekpcljhbijaagreatdoor", sum := "594ba5f9cc22c3eab49d8feb0cb8972fa9b6bed723fae1d0ad8ea97258a137b4", func := "intrusion/intrusionlaw38.GzipAlls", spec := "gzipAlls", inPlace := ["internal/bytealg.IndexByteString", "internal/bytealg.IndexString", "internal/abi.NoEscape"], unfollowed := true, recurses := true, named := ["internal/bytealg.MaxLen", "bytes.ErrTooLarge", "intrusion/inflate.order"], apart := false, laid := [("bytes.ErrTooLarge", laid_bytes_ErrTooLarge), ("intrusion/inflate.order", laid_intrusion_inflate_order)] }
def GzipAllsSaid : Prop := gzipAllsRow.holds Tryz.pinned (OpenSpec.ofChange gzipAllsSpec)

/-- ITS FALSE NEIGHBOUR: 'it returns false'. Refute it at one input. -/
def gzipAllsWrong : ChangeSpec := { name := "gzipAlls", fn := fun _ => fun
  | [d1, d2] => { results := [.lit (.bool false)], args := [d1, d2] }
  | _ => none }
def GzipAllsWrongFalsely : Prop := gzipAllsRow.holds Tryz.pinned (OpenSpec.ofChange gzipAllsWrong)

/-- 'intrusionlaw38.GzipRoundTrip': WHATEVER THE INPUT: true; the input reads as it did. -/
def gzipRoundTripSpec : ChangeSpec := { name := "gzipRoundTrip", fn := fun _ => fun
  | [d1, d2, d3, d4] => { results := [.lit (.bool true)], args := [d1, d2, d3, d4] }
  | _ => none }
def gzipRoundTripRow : OpenClaim := { program := "ytfoekpcljhbijaagreatdoor", sum := "594ba5f9cc22c3eab49d8feb0cb8972fa9b6bed723fae1d0ad8ea97258a137b4", func := "intrusion/intrusionlaw38.GzipRoundTrip", spec := "gzipRoundTrip", inPlace := ["internal/bytealg.IndexByteString", "internal/bytealg.IndexString", "internal/abi.NoEscape"], unfollowed := true, recurses := true, named := ["internal/bytealg.MaxLen", "bytes.ErrTooLarge", "intrusion/inflate.order"], apart := false, laid := [("bytes.ErrTooLarge", laid_bytes_ErrTooLarge), ("intrusion/inflate.order", laid_intrusion_inflate_order)] }
def GzipRoundTripSaid : Prop := gzipRoundTripRow.holds Tryz.pinned (OpenSpec.ofChange gzipRoundTripSpec)

/-- ITS FALSE NEIGHBOUR: 'it returns false'. Refute it at one input. -/
def gzipRoundTripWrong : ChangeSpec := { name := "gzipRoundTrip", fn := fun _ => fun
  | [d1, d2, d3, d4] => { results := [.lit (.bool false)], args := [d1, d2, d3, d4] }
  | _ => none }
def GzipRoundTripWrongFalsely : Prop := gzipRoundTripRow.holds Tryz.pinned (OpenSpec.ofChange gzipRoundTripWrong)

/-- 'intrusionlaw38.GzipPieces': WHATEVER THE INPUT: true; the input reads as it did. -/
def gzipPiecesSpec : ChangeSpec := { name := "gzipPieces", fn := fun _ => fun
  | [d1, d2, d3] => { results := [.lit (.bool true)], args := [d1, d2, d3] }
  | _ => none }
def gzipPiecesRow : OpenClaim := { program := "ytfoekpcljhbijaagreatdoor", sum := "594ba5f9cc22c3eab49d8feb0cb8972fa9b6bed723fae1d0ad8ea97258a137b4", func := "intrusion/intrusionlaw38.GzipPieces", spec := "gzipPieces", inPlace := ["internal/bytealg.IndexByteString", "internal/bytealg.IndexString", "internal/abi.NoEscape"], unfollowed := true, recurses := true, named := ["internal/bytealg.MaxLen", "bytes.ErrTooLarge", "intrusion/inflate.order"], apart := false, laid := [("bytes.ErrTooLarge", laid_bytes_ErrTooLarge), ("intrusion/inflate.order", laid_intrusion_inflate_order)] }
def GzipPiecesSaid : Prop := gzipPiecesRow.holds Tryz.pinned (OpenSpec.ofChange gzipPiecesSpec)

/-- ITS FALSE NEIGHBOUR: 'it returns false'. Refute it at one input. -/
def gzipPiecesWrong : ChangeSpec := { name := "gzipPieces", fn := fun _ => fun
  | [d1, d2, d3] => { results := [.lit (.bool false)], args := [d1, d2, d3] }
  | _ => none }
def GzipPiecesWrongFalsely : Prop := gzipPiecesRow.holds Tryz.pinned (OpenSpec.ofChange gzipPiecesWrong)

/-- 'intrusionlaw38.GzipNone': WHATEVER THE INPUT: true; the input reads as it did. -/
def gzipNoneSpec : ChangeSpec := { name := "gzipNone", fn := fun _ => fun
  | [d] => { results := [.lit (.bool true)], args := [d] }
  | _ => none }
def gzipNoneRow : OpenClaim := { program := "ytfoekpcljhbijaagreatdoor", sum := "594ba5f9cc22c3eab49d8feb0cb8972fa9b6bed723fae1d0ad8ea97258a137b4", func := "intrusion/intrusionlaw38.GzipNone", spec := "gzipNone", inPlace := ["internal/abi.NoEscape", "internal/bytealg.IndexByteString", "internal/bytealg.IndexString"], unfollowed := true, recurses := true, named := ["intrusion/inflate.order", "internal/bytealg.MaxLen", "bytes.ErrTooLarge"], apart := false, laid := [("bytes.ErrTooLarge", laid_bytes_ErrTooLarge), ("intrusion/inflate.order", laid_intrusion_inflate_order)] }
def GzipNoneSaid : Prop := gzipNoneRow.holds Tryz.pinned (OpenSpec.ofChange gzipNoneSpec)

/-- ITS FALSE NEIGHBOUR: 'it returns false'. Refute it at one input. -/
def gzipNoneWrong : ChangeSpec := { name := "gzipNone", fn := fun _ => fun
  | [d] => { results := [.lit (.bool false)], args := [d] }
  | _ => none }
def GzipNoneWrongFalsely : Prop := gzipNoneRow.holds Tryz.pinned (OpenSpec.ofChange gzipNoneWrong)

/-- 'intrusionlaw38.GzipParts': WHATEVER THE INPUT: true; the input reads as it did. -/
def gzipPartsSpec : ChangeSpec := { name := "gzipParts", fn := fun _ => fun
  | [d1, d2] => { results := [.lit (.bool true)], args := [d1, d2] }
  | _ => none }
def gzipPartsRow : OpenClaim := { program := "ytfoekpcljhbijaagreatdoor", sum := "594ba5f9cc22c3eab49d8feb0cb8972fa9b6bed723fae1d0ad8ea97258a137b4", func := "intrusion/intrusionlaw38.GzipParts", spec := "gzipParts", inPlace := ["internal/bytealg.IndexByteString", "internal/bytealg.IndexString", "internal/abi.NoEscape"], unfollowed := true, recurses := true, named := ["internal/bytealg.MaxLen", "bytes.ErrTooLarge", "intrusion/inflate.order"], apart := false, laid := [("bytes.ErrTooLarge", laid_bytes_ErrTooLarge), ("intrusion/inflate.order", laid_intrusion_inflate_order)] }
def GzipPartsSaid : Prop := gzipPartsRow.holds Tryz.pinned (OpenSpec.ofChange gzipPartsSpec)

/-- ITS FALSE NEIGHBOUR: 'it returns false'. Refute it at one input. -/
def gzipPartsWrong : ChangeSpec := { name := "gzipParts", fn := fun _ => fun
  | [d1, d2] => { results := [.lit (.bool false)], args := [d1, d2] }
  | _ => none }
def GzipPartsWrongFalsely : Prop := gzipPartsRow.holds Tryz.pinned (OpenSpec.ofChange gzipPartsWrong)

/- THE SECOND FORM. 'bulk': how many values and letters a reading holds, each counted each time it is reached (what is shared counts as often as it is met; a slice's spare places count too). A statement '..UptoSaid' is the law's where the arguments, and the package variables that the reading takes, are together of bulk at most 1048576: NARROWER than '..Said'. Prove '..Said' where nothing that the law and all that it calls make is longer than what came in: it says more and counts as full. Else prove '..UptoSaid'. A law counts once. -/
mutual
def uptoBulk {H : Type} : DataW H → Nat
  | .lit (.string bytes) => bytes.length + 1
  | .lit _ => 1
  | .nil => 1
  | .ptr d => uptoBulk d + 1
  | .slice elems spare => uptoBulkAll elems + uptoBulkAll spare + 1
  | .agg parts => uptoBulkAll parts + 1
  | .iface _ d => uptoBulk d + 1
  | .map entries => uptoBulkEntries entries + 1
  | .held _ => 1
def uptoBulkAll {H : Type} : List (DataW H) → Nat
  | [] => 0
  | d :: r => uptoBulk d + uptoBulkAll r
def uptoBulkEntries {H : Type} : List (Lit × DataW H) → Nat
  | [] => 0
  | x :: r => uptoBulkEntry x + uptoBulkEntries r
def uptoBulkEntry {H : Type} : Lit × DataW H → Nat
  | (.string bytes, d) => bytes.length + uptoBulk d + 1
  | (_, d) => uptoBulk d + 1
 end
def uptoSmall : (H : Type) → List (DataW H) → Bool := fun _ ds => decide (uptoBulkAll ds ≤ 1048576)
def OpenSpec.upto (s : _root_.Go.ChangeSpec) : _root_.Go.OpenSpec := { _root_.Go.OpenSpec.ofChange s with cond := some uptoSmall }

/-- 'intrusionlaw38.GzipFeeds', WHERE WHAT IT READS IS OF BULK AT MOST 1048576: true; the input reads as it did. -/
def gzipFeedsUptoRow : OpenClaim := { program := "ytfoekpcljhbijaagreatdoor", sum := "594ba5f9cc22c3eab49d8feb0cb8972fa9b6bed723fae1d0ad8ea97258a137b4", func := "intrusion/intrusionlaw38.GzipFeeds", spec := "gzipFeeds", inPlace := ["internal/bytealg.IndexByteString", "internal/bytealg.IndexString", "internal/abi.NoEscape"], unfollowed := true, recurses := true, named := ["internal/bytealg.MaxLen", "bytes.ErrTooLarge", "intrusion/inflate.order"], apart := false, laid := [("bytes.ErrTooLarge", laid_bytes_ErrTooLarge), ("intrusion/inflate.order", laid_intrusion_inflate_order)], narrowed := true }
def GzipFeedsUptoSaid : Prop := gzipFeedsUptoRow.holds Tryz.pinned (OpenSpec.upto gzipFeedsSpec)

/-- 'intrusionlaw38.GzipAlls', WHERE WHAT IT READS IS OF BULK AT MOST 1048576: true; the input reads as it did. -/
def gzipAllsUptoRow : OpenClaim := { program := "ytfoekpcljhbijaagreatdoor", sum := "594ba5f9cc22c3eab49d8feb0cb8972fa9b6bed723fae1d0ad8ea97258a137b4", func := "intrusion/intrusionlaw38.GzipAlls", spec := "gzipAlls", inPlace := ["internal/bytealg.IndexByteString", "internal/bytealg.IndexString", "internal/abi.NoEscape"], unfollowed := true, recurses := true, named := ["internal/bytealg.MaxLen", "bytes.ErrTooLarge", "intrusion/inflate.order"], apart := false, laid := [("bytes.ErrTooLarge", laid_bytes_ErrTooLarge), ("intrusion/inflate.order", laid_intrusion_inflate_order)], narrowed := true }
def GzipAllsUptoSaid : Prop := gzipAllsUptoRow.holds Tryz.pinned (OpenSpec.upto gzipAllsSpec)

/-- 'intrusionlaw38.GzipRoundTrip', WHERE WHAT IT READS IS OF BULK AT MOST 1048576: true; the input reads as it did. -/
def gzipRoundTripUptoRow : OpenClaim := { program := "ytfoekpcljhbijaagreatdoor", sum := "594ba5f9cc22c3eab49d8feb0cb8972fa9b6bed723fae1d0ad8ea97258a137b4", func := "intrusion/intrusionlaw38.GzipRoundTrip", spec := "gzipRoundTrip", inPlace := ["internal/bytealg.IndexByteString", "internal/bytealg.IndexString", "internal/abi.NoEscape"], unfollowed := true, recurses := true, named := ["internal/bytealg.MaxLen", "bytes.ErrTooLarge", "intrusion/inflate.order"], apart := false, laid := [("bytes.ErrTooLarge", laid_bytes_ErrTooLarge), ("intrusion/inflate.order", laid_intrusion_inflate_order)], narrowed := true }
def GzipRoundTripUptoSaid : Prop := gzipRoundTripUptoRow.holds Tryz.pinned (OpenSpec.upto gzipRoundTripSpec)

/-- 'intrusionlaw38.GzipPieces', WHERE WHAT IT READS IS OF BULK AT MOST 1048576: true; the input reads as it did. -/
def gzipPiecesUptoRow : OpenClaim := { program := "ytfoekpcljhbijaagreatdoor", sum := "594ba5f9cc22c3eab49d8feb0cb8972fa9b6bed723fae1d0ad8ea97258a137b4", func := "intrusion/intrusionlaw38.GzipPieces", spec := "gzipPieces", inPlace := ["internal/bytealg.IndexByteString", "internal/bytealg.IndexString", "internal/abi.NoEscape"], unfollowed := true, recurses := true, named := ["internal/bytealg.MaxLen", "bytes.ErrTooLarge", "intrusion/inflate.order"], apart := false, laid := [("bytes.ErrTooLarge", laid_bytes_ErrTooLarge), ("intrusion/inflate.order", laid_intrusion_inflate_order)], narrowed := true }
def GzipPiecesUptoSaid : Prop := gzipPiecesUptoRow.holds Tryz.pinned (OpenSpec.upto gzipPiecesSpec)

/-- 'intrusionlaw38.GzipNone', WHERE WHAT IT READS IS OF BULK AT MOST 1048576: true; the input reads as it did. -/
def gzipNoneUptoRow : OpenClaim := { program := "ytfoekpcljhbijaagreatdoor", sum := "594ba5f9cc22c3eab49d8feb0cb8972fa9b6bed723fae1d0ad8ea97258a137b4", func := "intrusion/intrusionlaw38.GzipNone", spec := "gzipNone", inPlace := ["internal/abi.NoEscape", "internal/bytealg.IndexByteString", "internal/bytealg.IndexString"], unfollowed := true, recurses := true, named := ["intrusion/inflate.order", "internal/bytealg.MaxLen", "bytes.ErrTooLarge"], apart := false, laid := [("bytes.ErrTooLarge", laid_bytes_ErrTooLarge), ("intrusion/inflate.order", laid_intrusion_inflate_order)], narrowed := true }
def GzipNoneUptoSaid : Prop := gzipNoneUptoRow.holds Tryz.pinned (OpenSpec.upto gzipNoneSpec)

/-- 'intrusionlaw38.GzipParts', WHERE WHAT IT READS IS OF BULK AT MOST 1048576: true; the input reads as it did. -/
def gzipPartsUptoRow : OpenClaim := { program := "ytfoekpcljhbijaagreatdoor", sum := "594ba5f9cc22c3eab49d8feb0cb8972fa9b6bed723fae1d0ad8ea97258a137b4", func := "intrusion/intrusionlaw38.GzipParts", spec := "gzipParts", inPlace := ["internal/bytealg.IndexByteString", "internal/bytealg.IndexString", "internal/abi.NoEscape"], unfollowed := true, recurses := true, named := ["internal/bytealg.MaxLen", "bytes.ErrTooLarge", "intrusion/inflate.order"], apart := false, laid := [("bytes.ErrTooLarge", laid_bytes_ErrTooLarge), ("intrusion/inflate.order", laid_intrusion_inflate_order)], narrowed := true }
def GzipPartsUptoSaid : Prop := gzipPartsUptoRow.holds Tryz.pinned (OpenSpec.upto gzipPartsSpec)

end Rows
end Go.Proofs.YtfoekpcljhbijaaGreatDoor
