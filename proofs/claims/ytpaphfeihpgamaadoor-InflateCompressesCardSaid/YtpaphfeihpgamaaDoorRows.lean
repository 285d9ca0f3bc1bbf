/-
  NARROWER THAN 'FOR EVERY INPUT', by the rows' own cells (each row's printed sentence says how): InflateAll: laid · InflateCompresses: laid · InflateCuts: laid · InflateBudgets: laid · InflateFeeds: laid · InflateRoundTrip: laid.
  DERIVED. THE GIVEN ROWS OF THIS SEAT. 6 by the template 'for every input the law returns true; each argument reads behind the call as it read before'; 0 by the template 'total and deterministic' (their statements: YtpaphfeihpgamaaDoorTotals.lean).
  GIVEN WITH THE SEED: the statements are not yours to turn. If you find one false, say at which input.
  Laid BY PROGRAM, IN A SANDBOX (cutbox-rows.mjs): the forced cells as the released guide's own fill.sh prints them over the translation d386dfc45980d7b0… (all of the seat's roots in one cut). By AI agents, Wed Nov 11 2026. No macro, syntax, notation, axiom, sorry.
-/
import Derived.Test.YtpaphfeihpgamaaDoorChecked
import GoSem.Claim
import GoSem.ClaimJoined
import GoSem.ClaimMapViews
import Derived.JoinedTies
import Derived.KernelRfl
namespace Go.Proofs.YtpaphfeihpgamaaDoor
/- THE CELL 'sum', in the pinned program and in every row, IS THE sha256 OF THE DUMP (.gsa) THAT YtpaphfeihpgamaaDoorProg.lean LOADS. Nothing in Lean hashes anything: it is a label: what it is worth is what the hold of that sum in a sandbox is worth. -/
noncomputable def Tryd.pinned : Pinned := { name := "ytpaphfeihpgamaadoor", sum := "d386dfc45980d7b0313fea807832926726e1d968933dc8299fb4ca341b05655d", checked := Tryd.checked }
namespace Rows
def none {H : Type} : Left H := { results := [], args := [] }

/- WHAT THE LISTED PACKAGE-LEVEL VARIABLES READ AS WHEN THE CALL BEGINS. Each datum BY PROGRAM (the guide's laid-datum.mjs) off the statement by which the dump's own 'gosem.cut.vars' lays the variable. In a bare row this is a premise. The card (YtpaphfeihpgamaaDoorCards.lean) ties it to the program's text. -/
def laid_bytes_ErrTooLarge {H : Type} : DataW H := .iface "*errors.errorString" (.ptr (.agg [.lit (.string [98, 121, 116, 101, 115, 46, 66, 117, 102, 102, 101, 114, 58, 32, 116, 111, 111, 32, 108, 97, 114, 103, 101])]))
def laid_intrusion_inflate_order {H : Type} : DataW H := .agg [.lit (.int .i64 16), .lit (.int .i64 17), .lit (.int .i64 18), .lit (.int .i64 0), .lit (.int .i64 8), .lit (.int .i64 7), .lit (.int .i64 9), .lit (.int .i64 6), .lit (.int .i64 10), .lit (.int .i64 5), .lit (.int .i64 11), .lit (.int .i64 4), .lit (.int .i64 12), .lit (.int .i64 3), .lit (.int .i64 13), .lit (.int .i64 2), .lit (.int .i64 14), .lit (.int .i64 1), .lit (.int .i64 15)]

/-- 'intrusionlaw37.InflateAll': WHATEVER THE INPUT: true; the input reads as it did. -/
def inflateAllSpec : ChangeSpec := { name := "inflateAll", fn := fun _ => fun
  | [d1, d2] => { results := [.lit (.bool true)], args := [d1, d2] }
  | _ => none }
def inflateAllRow : OpenClaim := { program := "ytpaphfeihpgamaadoor", sum := "d386dfc45980d7b0313fea807832926726e1d968933dc8299fb4ca341b05655d", func := "intrusion/intrusionlaw37.InflateAll", spec := "inflateAll", unfollowed := true, recurses := true, named := ["intrusion/inflate.order", "bytes.ErrTooLarge"], apart := false, laid := [("bytes.ErrTooLarge", laid_bytes_ErrTooLarge), ("intrusion/inflate.order", laid_intrusion_inflate_order)] }
def InflateAllSaid : Prop := inflateAllRow.holds Tryd.pinned (OpenSpec.ofChange inflateAllSpec)

/-- ITS FALSE NEIGHBOUR: 'it returns false'. Refute it at one input. -/
def inflateAllWrong : ChangeSpec := { name := "inflateAll", fn := fun _ => fun
  | [d1, d2] => { results := [.lit (.bool false)], args := [d1, d2] }
  | _ => none }
def InflateAllWrongFalsely : Prop := inflateAllRow.holds Tryd.pinned (OpenSpec.ofChange inflateAllWrong)

/-- 'intrusionlaw37.InflateCompresses': WHATEVER THE INPUT: true; the input reads as it did. -/
def inflateCompressesSpec : ChangeSpec := { name := "inflateCompresses", fn := fun _ => fun
  | [d] => { results := [.lit (.bool true)], args := [d] }
  | _ => none }
def inflateCompressesRow : OpenClaim := { program := "ytpaphfeihpgamaadoor", sum := "d386dfc45980d7b0313fea807832926726e1d968933dc8299fb4ca341b05655d", func := "intrusion/intrusionlaw37.InflateCompresses", spec := "inflateCompresses", unfollowed := true, recurses := true, named := ["intrusion/inflate.order", "bytes.ErrTooLarge"], apart := false, laid := [("bytes.ErrTooLarge", laid_bytes_ErrTooLarge), ("intrusion/inflate.order", laid_intrusion_inflate_order)] }
def InflateCompressesSaid : Prop := inflateCompressesRow.holds Tryd.pinned (OpenSpec.ofChange inflateCompressesSpec)

/-- ITS FALSE NEIGHBOUR: 'it returns false'. Refute it at one input. -/
def inflateCompressesWrong : ChangeSpec := { name := "inflateCompresses", fn := fun _ => fun
  | [d] => { results := [.lit (.bool false)], args := [d] }
  | _ => none }
def InflateCompressesWrongFalsely : Prop := inflateCompressesRow.holds Tryd.pinned (OpenSpec.ofChange inflateCompressesWrong)

/-- 'intrusionlaw37.InflateCuts': WHATEVER THE INPUT: true; the input reads as it did. -/
def inflateCutsSpec : ChangeSpec := { name := "inflateCuts", fn := fun _ => fun
  | [d1, d2, d3] => { results := [.lit (.bool true)], args := [d1, d2, d3] }
  | _ => none }
def inflateCutsRow : OpenClaim := { program := "ytpaphfeihpgamaadoor", sum := "d386dfc45980d7b0313fea807832926726e1d968933dc8299fb4ca341b05655d", func := "intrusion/intrusionlaw37.InflateCuts", spec := "inflateCuts", unfollowed := true, recurses := true, named := ["intrusion/inflate.order", "bytes.ErrTooLarge"], apart := false, laid := [("bytes.ErrTooLarge", laid_bytes_ErrTooLarge), ("intrusion/inflate.order", laid_intrusion_inflate_order)] }
def InflateCutsSaid : Prop := inflateCutsRow.holds Tryd.pinned (OpenSpec.ofChange inflateCutsSpec)

/-- ITS FALSE NEIGHBOUR: 'it returns false'. Refute it at one input. -/
def inflateCutsWrong : ChangeSpec := { name := "inflateCuts", fn := fun _ => fun
  | [d1, d2, d3] => { results := [.lit (.bool false)], args := [d1, d2, d3] }
  | _ => none }
def InflateCutsWrongFalsely : Prop := inflateCutsRow.holds Tryd.pinned (OpenSpec.ofChange inflateCutsWrong)

/-- 'intrusionlaw37.InflateBudgets': WHATEVER THE INPUT: true; the input reads as it did. -/
def inflateBudgetsSpec : ChangeSpec := { name := "inflateBudgets", fn := fun _ => fun
  | [d1, d2] => { results := [.lit (.bool true)], args := [d1, d2] }
  | _ => none }
def inflateBudgetsRow : OpenClaim := { program := "ytpaphfeihpgamaadoor", sum := "d386dfc45980d7b0313fea807832926726e1d968933dc8299fb4ca341b05655d", func := "intrusion/intrusionlaw37.InflateBudgets", spec := "inflateBudgets", unfollowed := true, recurses := true, named := ["intrusion/inflate.order", "bytes.ErrTooLarge"], apart := false, laid := [("bytes.ErrTooLarge", laid_bytes_ErrTooLarge), ("intrusion/inflate.order", laid_intrusion_inflate_order)] }
def InflateBudgetsSaid : Prop := inflateBudgetsRow.holds Tryd.pinned (OpenSpec.ofChange inflateBudgetsSpec)

/-- ITS FALSE NEIGHBOUR: 'it returns false'. Refute it at one input. -/
def inflateBudgetsWrong : ChangeSpec := { name := "inflateBudgets", fn := fun _ => fun
  | [d1, d2] => { results := [.lit (.bool false)], args := [d1, d2] }
  | _ => none }
def InflateBudgetsWrongFalsely : Prop := inflateBudgetsRow.holds Tryd.pinned (OpenSpec.ofChange inflateBudgetsWrong)

/-- 'intrusionlaw37.InflateFeeds': WHATEVER THE INPUT: true; the input reads as it did. -/
def inflateFeedsSpec : ChangeSpec := { name := "inflateFeeds", fn := fun _ => fun
  | [d1, d2] => { results := [.lit (.bool true)], args := [d1, d2] }
  | _ => none }
def inflateFeedsRow : OpenClaim := { program := "ytpaphfeihpgamaadoor", sum := "d386dfc45980d7b0313fea807832926726e1d968933dc8299fb4ca341b05655d", func := "intrusion/intrusionlaw37.InflateFeeds", spec := "inflateFeeds", unfollowed := true, recurses := true, named := ["intrusion/inflate.order", "bytes.ErrTooLarge"], apart := false, laid := [("bytes.ErrTooLarge", laid_bytes_ErrTooLarge), ("intrusion/inflate.order", laid_intrusion_inflate_order)] }
def InflateFeedsSaid : Prop := inflateFeedsRow.holds Tryd.pinned (OpenSpec.ofChange inflateFeedsSpec)

/-- ITS FALSE NEIGHBOUR: 'it returns false'. Refute it at one input. -/
def inflateFeedsWrong : ChangeSpec := { name := "inflateFeeds", fn := fun _ => fun
  | [d1, d2] => { results := [.lit (.bool false)], args := [d1, d2] }
  | _ => none }
def InflateFeedsWrongFalsely : Prop := inflateFeedsRow.holds Tryd.pinned (OpenSpec.ofChange inflateFeedsWrong)

/-- 'intrusionlaw37.InflateRoundTrip': WHATEVER THE INPUT: true; the input reads as it did. -/
def inflateRoundTripSpec : ChangeSpec := { name := "inflateRoundTrip", fn := fun _ => fun
  | [d1, d2] => { results := [.lit (.bool true)], args := [d1, d2] }
  | _ => none }
def inflateRoundTripRow : OpenClaim := { program := "ytpaphfeihpgamaadoor", sum := "d386dfc45980d7b0313fea807832926726e1d968933dc8299fb4ca341b05655d", func := "intrusion/intrusionlaw37.InflateRoundTrip", spec := "inflateRoundTrip", unfollowed := true, recurses := true, named := ["intrusion/inflate.order", "bytes.ErrTooLarge"], apart := false, laid := [("bytes.ErrTooLarge", laid_bytes_ErrTooLarge), ("intrusion/inflate.order", laid_intrusion_inflate_order)] }
def InflateRoundTripSaid : Prop := inflateRoundTripRow.holds Tryd.pinned (OpenSpec.ofChange inflateRoundTripSpec)

/-- ITS FALSE NEIGHBOUR: 'it returns false'. Refute it at one input. -/
def inflateRoundTripWrong : ChangeSpec := { name := "inflateRoundTrip", fn := fun _ => fun
  | [d1, d2] => { results := [.lit (.bool false)], args := [d1, d2] }
  | _ => none }
def InflateRoundTripWrongFalsely : Prop := inflateRoundTripRow.holds Tryd.pinned (OpenSpec.ofChange inflateRoundTripWrong)

/- THE SECOND FORM. 'bulk': how many values and letters a reading holds, each counted each time it is reached (what is shared counts as often as it is met; a slice's spare places count too). A statement '..UptoSaid' is the law's where the arguments, and the package variables that the reading takes, are together of bulk at most 1048576: NARROWER than '..Said'. Prove '..Said' where nothing that the law and all that it calls make is longer than what came in: it says more and counts as full. Else prove '..UptoSaid'. A law counts once. -/
mutual
def uptoBulk {H : Type} : DataW H → Nat
  | .lit (.string bytes) => bytes.length + 1
  | .lit _ => 1
  | .nil => 1
  | .ptr d => uptoBulk d + 1
  | .slice elems spare => uptoBulkAll elems + uptoBulkAll spare + 1
  | .agg parts => uptoBulkAll parts + 1
  | .iface _ d => uptoBulk d + 1
  | .map entries => uptoBulkEntries entries + 1
  | .held _ => 1
def uptoBulkAll {H : Type} : List (DataW H) → Nat
  | [] => 0
  | d :: r => uptoBulk d + uptoBulkAll r
def uptoBulkEntries {H : Type} : List (Lit × DataW H) → Nat
  | [] => 0
  | x :: r => uptoBulkEntry x + uptoBulkEntries r
def uptoBulkEntry {H : Type} : Lit × DataW H → Nat
  | (.string bytes, d) => bytes.length + uptoBulk d + 1
  | (_, d) => uptoBulk d + 1
 end
def uptoSmall : (H : Type) → List (DataW H) → Bool := fun _ ds => decide (uptoBulkAll ds ≤ 1048576)
def OpenSpec.upto (s : _root_.Go.ChangeSpec) : _root_.Go.OpenSpec := { _root_.Go.OpenSpec.ofChange s with cond := some uptoSmall }

/-- 'intrusionlaw37.InflateAll', WHERE WHAT IT READS IS OF BULK AT MOST 1048576: true; the input reads as it did. -/
def inflateAllUptoRow : OpenClaim := { program := "ytpaphfeihpgamaadoor", sum := "d386dfc45980d7b0313fea807832926726e1d968933dc8299fb4ca341b05655d", func := "intrusion/intrusionlaw37.InflateAll", spec := "inflateAll", unfollowed := true, recurses := true, named := ["intrusion/inflate.order", "bytes.ErrTooLarge"], apart := false, laid := [("bytes.ErrTooLarge", laid_bytes_ErrTooLarge), ("intrusion/inflate.order", laid_intrusion_inflate_order)], narrowed := true }
def InflateAllUptoSaid : Prop := inflateAllUptoRow.holds Tryd.pinned (OpenSpec.upto inflateAllSpec)

/-- 'intrusionlaw37.InflateCompresses', WHERE WHAT IT READS IS OF BULK AT MOST 1048576: true; the input reads as it did. -/
def inflateCompressesUptoRow : OpenClaim := { program := "ytpaphfeihpgamaadoor", sum := "d386dfc45980d7b0313fea807832926726e1d968933dc8299fb4ca341b05655d", func := "intrusion/intrusionlaw37.InflateCompresses", spec := "inflateCompresses", unfollowed := true, recurses := true, named := ["intrusion/inflate.order", "bytes.ErrTooLarge"], apart := false, laid := [("bytes.ErrTooLarge", laid_bytes_ErrTooLarge), ("intrusion/inflate.order", laid_intrusion_inflate_order)], narrowed := true }
def InflateCompressesUptoSaid : Prop := inflateCompressesUptoRow.holds Tryd.pinned (OpenSpec.upto inflateCompressesSpec)

/-- 'intrusionlaw37.InflateCuts', WHERE WHAT IT READS IS OF BULK AT MOST 1048576: true; the input reads as it did. -/
def inflateCutsUptoRow : OpenClaim := { program := "ytpaphfeihpgamaadoor", sum := "d386dfc45980d7b0313fea807832926726e1d968933dc8299fb4ca341b05655d", func := "intrusion/intrusionlaw37.InflateCuts", spec := "inflateCuts", unfollowed := true, recurses := true, named := ["intrusion/inflate.order", "bytes.ErrTooLarge"], apart := false, laid := [("bytes.ErrTooLarge", laid_bytes_ErrTooLarge), ("intrusion/inflate.order", laid_intrusion_inflate_order)], narrowed := true }
def InflateCutsUptoSaid : Prop := inflateCutsUptoRow.holds Tryd.pinned (OpenSpec.upto inflateCutsSpec)

/-- 'intrusionlaw37.InflateBudgets', WHERE WHAT IT READS IS OF BULK AT MOST 1048576: true; the input reads as it did. -/
def inflateBudgetsUptoRow : OpenClaim := { program := "ytpaphfeihpgamaadoor", sum := "d386dfc45980d7b0313fea807832926726e1d968933dc8299fb4ca341b05655d", func := "intrusion/intrusionlaw37.InflateBudgets", spec := "inflateBudgets", unfollowed := true, recurses := true, named := ["intrusion/inflate.order", "bytes.ErrTooLarge"], apart := false, laid := [("bytes.ErrTooLarge", laid_bytes_ErrTooLarge), ("intrusion/inflate.order", laid_intrusion_inflate_order)], narrowed := true }
def InflateBudgetsUptoSaid : Prop := inflateBudgetsUptoRow.holds Tryd.pinned (OpenSpec.upto inflateBudgetsSpec)

/-- 'intrusionlaw37.InflateFeeds', WHERE WHAT IT READS IS OF BULK AT MOST 1048576: true; the input reads as it did. -/
def inflateFeedsUptoRow : OpenClaim := { program := "ytpaphfeihpgamaadoor", sum := "d386dfc45980d7b0313fea807832926726e1d968933dc8299fb4ca341b05655d", func := "intrusion/intrusionlaw37.InflateFeeds", spec := "inflateFeeds", unfollowed := true, recurses := true, named := ["intrusion/inflate.order", "bytes.ErrTooLarge"], apart := false, laid := [("bytes.ErrTooLarge", laid_bytes_ErrTooLarge), ("intrusion/inflate.order", laid_intrusion_inflate_order)], narrowed := true }
def InflateFeedsUptoSaid : Prop := inflateFeedsUptoRow.holds Tryd.pinned (OpenSpec.upto inflateFeedsSpec)

/-- 'intrusionlaw37.InflateRoundTrip', WHERE WHAT IT READS IS OF BULK AT MOST 1048576: true; the input reads as it did. -/
def inflateRoundTripUptoRow : OpenClaim := { program := "ytpaphfeihpgamaadoor", sum := "d386dfc45980d7b0313fea807832926726e1d968933dc8299fb4ca341b05655d", func := "intrusion/intrusionlaw37.InflateRoundTrip", spec := "inflateRoundTrip", unfollowed := true, recurses := true, named := ["intrusion/inflate.order", "bytes.ErrTooLarge"], apart := false, laid := [("bytes.ErrTooLarge", laid_bytes_ErrTooLarge), ("intrusion/inflate.order", laid_intrusion_inflate_order)], narrowed := true }
def InflateRoundTripUptoSaid : Prop := inflateRoundTripUptoRow.holds Tryd.pinned (OpenSpec.upto inflateRoundTripSpec)

end Rows
end Go.Proofs.YtpaphfeihpgamaaDoor
