/-
  NARROWER THAN 'FOR EVERY INPUT', by the rows' own cells (each row's printed sentence says how): DerDecodes: laid · DerEncodes: loops, laid · DerNumbers: loops, laid · DerTimes: loops, laid · DerRoundTrip: loops, laid · DerClock: laid · DerOids: loops, laid · DerInverse: laid.
  DERIVED. THE GIVEN ROWS OF THIS SEAT. 8 by the template 'for every input the law returns true; each argument reads behind the call as it read before'; 0 by the template 'total and deterministic' (their statements: YtffgchcidkapjaaDoorTotals.lean).
  GIVEN WITH THE SEED: the statements are not yours to turn. If you find one false, say at which input.
  Laid BY PROGRAM, IN A SANDBOX (cutbox-rows.mjs): the forced cells as the released guide's own fill.sh prints them over the translation a0c12628ce941c2d… (all of the seat's roots in one cut). By AI agents, Wed Nov 11 2026. No macro, syntax, notation, axiom, sorry.
-/
import Derived.Test.YtffgchcidkapjaaDoorChecked
import GoSem.PinnedTables
import GoSem.Claim
import GoSem.ClaimJoined
import GoSem.ClaimMapViews
import Derived.JoinedTies
import Derived.KernelRfl
namespace Go.Proofs.YtffgchcidkapjaaDoor
/- THE CELL 'sum', in the pinned program and in every row, IS THE sha256 OF THE DUMP (.gsa) THAT YtffgchcidkapjaaDoorProg.lean LOADS. Nothing in Lean hashes anything: it is a label: what it is worth is what the hold of that sum in a sandbox is worth. -/
noncomputable def Tryd.pinned : Pinned := { name := "ytffgchcidkapjaadoor", sum := "a0c12628ce941c2d6c6caa70c9e703c0c4e283bc4bac0ffc4ab5fbc8cd14ec21", checked := Tryd.checked }
namespace Rows
def none {H : Type} : Left H := { results := [], args := [] }

/- WHAT THE LISTED PACKAGE-LEVEL VARIABLES READ AS WHEN THE CALL BEGINS. Each datum BY PROGRAM (the guide's laid-datum.mjs) off the statement by which the dump's own 'gosem.cut.vars' lays the variable. In a bare row this is a premise. The card (YtffgchcidkapjaaDoorCards.lean) ties it to the program's text. -/
def laid_unicode_utf8_acceptRanges {H : Type} : DataW H := .agg [.agg [.lit (.int .u8 128), .lit (.int .u8 191)], .agg [.lit (.int .u8 160), .lit (.int .u8 191)], .agg [.lit (.int .u8 128), .lit (.int .u8 159)], .agg [.lit (.int .u8 144), .lit (.int .u8 191)], .agg [.lit (.int .u8 128), .lit (.int .u8 143)], .agg [.lit (.int .u8 0), .lit (.int .u8 0)], .agg [.lit (.int .u8 0), .lit (.int .u8 0)], .agg [.lit (.int .u8 0), .lit (.int .u8 0)], .agg [.lit (.int .u8 0), .lit (.int .u8 0)], .agg [.lit (.int .u8 0), .lit (.int .u8 0)], .agg [.lit (.int .u8 0), .lit (.int .u8 0)], .agg [.lit (.int .u8 0), .lit (.int .u8 0)], .agg [.lit (.int .u8 0), .lit (.int .u8 0)], .agg [.lit (.int .u8 0), .lit (.int .u8 0)], .agg [.lit (.int .u8 0), .lit (.int .u8 0)], .agg [.lit (.int .u8 0), .lit (.int .u8 0)]]
/-- One of Go's own tables, pinned by name: the form's constant. -/
def laid_unicode_utf8_first : DataW Unit := Go.Pinned.utf8First
def laid_math_bits_deBruijn32tab {H : Type} : DataW H := .agg [.lit (.int .u8 0), .lit (.int .u8 1), .lit (.int .u8 28), .lit (.int .u8 2), .lit (.int .u8 29), .lit (.int .u8 14), .lit (.int .u8 24), .lit (.int .u8 3), .lit (.int .u8 30), .lit (.int .u8 22), .lit (.int .u8 20), .lit (.int .u8 15), .lit (.int .u8 25), .lit (.int .u8 17), .lit (.int .u8 4), .lit (.int .u8 8), .lit (.int .u8 31), .lit (.int .u8 27), .lit (.int .u8 13), .lit (.int .u8 23), .lit (.int .u8 21), .lit (.int .u8 19), .lit (.int .u8 16), .lit (.int .u8 7), .lit (.int .u8 26), .lit (.int .u8 12), .lit (.int .u8 18), .lit (.int .u8 6), .lit (.int .u8 11), .lit (.int .u8 5), .lit (.int .u8 10), .lit (.int .u8 9)]
def laid_math_bits_deBruijn64tab {H : Type} : DataW H := .agg [.lit (.int .u8 0), .lit (.int .u8 1), .lit (.int .u8 56), .lit (.int .u8 2), .lit (.int .u8 57), .lit (.int .u8 49), .lit (.int .u8 28), .lit (.int .u8 3), .lit (.int .u8 61), .lit (.int .u8 58), .lit (.int .u8 42), .lit (.int .u8 50), .lit (.int .u8 38), .lit (.int .u8 29), .lit (.int .u8 17), .lit (.int .u8 4), .lit (.int .u8 62), .lit (.int .u8 47), .lit (.int .u8 59), .lit (.int .u8 36), .lit (.int .u8 45), .lit (.int .u8 43), .lit (.int .u8 51), .lit (.int .u8 22), .lit (.int .u8 53), .lit (.int .u8 39), .lit (.int .u8 33), .lit (.int .u8 30), .lit (.int .u8 24), .lit (.int .u8 18), .lit (.int .u8 12), .lit (.int .u8 5), .lit (.int .u8 63), .lit (.int .u8 55), .lit (.int .u8 48), .lit (.int .u8 27), .lit (.int .u8 60), .lit (.int .u8 41), .lit (.int .u8 37), .lit (.int .u8 16), .lit (.int .u8 46), .lit (.int .u8 35), .lit (.int .u8 44), .lit (.int .u8 21), .lit (.int .u8 52), .lit (.int .u8 32), .lit (.int .u8 23), .lit (.int .u8 11), .lit (.int .u8 54), .lit (.int .u8 26), .lit (.int .u8 40), .lit (.int .u8 15), .lit (.int .u8 34), .lit (.int .u8 20), .lit (.int .u8 31), .lit (.int .u8 10), .lit (.int .u8 25), .lit (.int .u8 14), .lit (.int .u8 19), .lit (.int .u8 9), .lit (.int .u8 13), .lit (.int .u8 8), .lit (.int .u8 7), .lit (.int .u8 6)]
def laid_internal_strconv_uint64pow10 {H : Type} : DataW H := .agg [.lit (.int .u64 1), .lit (.int .u64 10), .lit (.int .u64 100), .lit (.int .u64 1000), .lit (.int .u64 10000), .lit (.int .u64 100000), .lit (.int .u64 1000000), .lit (.int .u64 10000000), .lit (.int .u64 100000000), .lit (.int .u64 1000000000), .lit (.int .u64 10000000000), .lit (.int .u64 100000000000), .lit (.int .u64 1000000000000), .lit (.int .u64 10000000000000), .lit (.int .u64 100000000000000), .lit (.int .u64 1000000000000000), .lit (.int .u64 10000000000000000), .lit (.int .u64 100000000000000000), .lit (.int .u64 1000000000000000000), .lit (.int .u64 10000000000000000000)]

/-- 'intrusionlaw33.DerDecodes': WHATEVER THE INPUT: true; the input reads as it did. -/
def derDecodesSpec : ChangeSpec := { name := "derDecodes", fn := fun _ => fun
  | [d] => { results := [.lit (.bool true)], args := [d] }
  | _ => none }
def derDecodesRow : OpenClaim := { program := "ytffgchcidkapjaadoor", sum := "a0c12628ce941c2d6c6caa70c9e703c0c4e283bc4bac0ffc4ab5fbc8cd14ec21", func := "intrusion/intrusionlaw33.DerDecodes", spec := "derDecodes", inPlace := ["internal/bytealg.CountString", "internal/bytealg.IndexByteString", "internal/bytealg.IndexString"], unfollowed := true, recurses := true, named := ["unicode/utf8.first", "unicode/utf8.acceptRanges", "internal/bytealg.MaxLen"], apart := false, laid := [("unicode/utf8.acceptRanges", laid_unicode_utf8_acceptRanges), ("unicode/utf8.first", laid_unicode_utf8_first)] }
def DerDecodesSaid : Prop := derDecodesRow.holds Tryd.pinned (OpenSpec.ofChange derDecodesSpec)

/-- ITS FALSE NEIGHBOUR: 'it returns false'. Refute it at one input. -/
def derDecodesWrong : ChangeSpec := { name := "derDecodes", fn := fun _ => fun
  | [d] => { results := [.lit (.bool false)], args := [d] }
  | _ => none }
def DerDecodesWrongFalsely : Prop := derDecodesRow.holds Tryd.pinned (OpenSpec.ofChange derDecodesWrong)

/-- 'intrusionlaw33.DerEncodes': WHATEVER THE INPUT: true; the input reads as it did. -/
def derEncodesSpec : ChangeSpec := { name := "derEncodes", fn := fun _ => fun
  | [d] => { results := [.lit (.bool true)], args := [d] }
  | _ => none }
def derEncodesRow : OpenClaim := { program := "ytffgchcidkapjaadoor", sum := "a0c12628ce941c2d6c6caa70c9e703c0c4e283bc4bac0ffc4ab5fbc8cd14ec21", func := "intrusion/intrusionlaw33.DerEncodes", spec := "derEncodes", inPlace := ["internal/bytealg.CountString", "internal/bytealg.IndexByteString", "internal/bytealg.IndexString"], unfollowed := true, recurses := true, named := ["unicode/utf8.first", "unicode/utf8.acceptRanges", "internal/bytealg.MaxLen"], loops := true, apart := false, laid := [("unicode/utf8.acceptRanges", laid_unicode_utf8_acceptRanges), ("unicode/utf8.first", laid_unicode_utf8_first)] }
def DerEncodesSaid : Prop := derEncodesRow.holds Tryd.pinned (OpenSpec.ofChange derEncodesSpec)

/-- ITS FALSE NEIGHBOUR: 'it returns false'. Refute it at one input. -/
def derEncodesWrong : ChangeSpec := { name := "derEncodes", fn := fun _ => fun
  | [d] => { results := [.lit (.bool false)], args := [d] }
  | _ => none }
def DerEncodesWrongFalsely : Prop := derEncodesRow.holds Tryd.pinned (OpenSpec.ofChange derEncodesWrong)

/-- 'intrusionlaw33.DerNumbers': WHATEVER THE INPUT: true; the input reads as it did. -/
def derNumbersSpec : ChangeSpec := { name := "derNumbers", fn := fun _ => fun
  | [d1, d2] => { results := [.lit (.bool true)], args := [d1, d2] }
  | _ => none }
def derNumbersRow : OpenClaim := { program := "ytffgchcidkapjaadoor", sum := "a0c12628ce941c2d6c6caa70c9e703c0c4e283bc4bac0ffc4ab5fbc8cd14ec21", func := "intrusion/intrusionlaw33.DerNumbers", spec := "derNumbers", inPlace := ["internal/bytealg.CountString", "internal/bytealg.IndexByteString", "internal/bytealg.IndexString"], unfollowed := true, recurses := true, named := ["unicode/utf8.first", "unicode/utf8.acceptRanges", "internal/bytealg.MaxLen"], loops := true, apart := false, laid := [("unicode/utf8.acceptRanges", laid_unicode_utf8_acceptRanges), ("unicode/utf8.first", laid_unicode_utf8_first)] }
def DerNumbersSaid : Prop := derNumbersRow.holds Tryd.pinned (OpenSpec.ofChange derNumbersSpec)

/-- ITS FALSE NEIGHBOUR: 'it returns false'. Refute it at one input. -/
def derNumbersWrong : ChangeSpec := { name := "derNumbers", fn := fun _ => fun
  | [d1, d2] => { results := [.lit (.bool false)], args := [d1, d2] }
  | _ => none }
def DerNumbersWrongFalsely : Prop := derNumbersRow.holds Tryd.pinned (OpenSpec.ofChange derNumbersWrong)

/-- 'intrusionlaw33.DerTimes': WHATEVER THE INPUT: true; the input reads as it did. -/
def derTimesSpec : ChangeSpec := { name := "derTimes", fn := fun _ => fun
  | [d1, d2] => { results := [.lit (.bool true)], args := [d1, d2] }
  | _ => none }
def derTimesRow : OpenClaim := { program := "ytffgchcidkapjaadoor", sum := "a0c12628ce941c2d6c6caa70c9e703c0c4e283bc4bac0ffc4ab5fbc8cd14ec21", func := "intrusion/intrusionlaw33.DerTimes", spec := "derTimes", inPlace := ["internal/bytealg.CountString", "internal/bytealg.IndexByteString", "internal/bytealg.IndexString"], unfollowed := true, recurses := true, named := ["unicode/utf8.first", "unicode/utf8.acceptRanges", "internal/bytealg.MaxLen"], loops := true, apart := false, laid := [("unicode/utf8.acceptRanges", laid_unicode_utf8_acceptRanges), ("unicode/utf8.first", laid_unicode_utf8_first)] }
def DerTimesSaid : Prop := derTimesRow.holds Tryd.pinned (OpenSpec.ofChange derTimesSpec)

/-- ITS FALSE NEIGHBOUR: 'it returns false'. Refute it at one input. -/
def derTimesWrong : ChangeSpec := { name := "derTimes", fn := fun _ => fun
  | [d1, d2] => { results := [.lit (.bool false)], args := [d1, d2] }
  | _ => none }
def DerTimesWrongFalsely : Prop := derTimesRow.holds Tryd.pinned (OpenSpec.ofChange derTimesWrong)

/-- 'intrusionlaw33.DerRoundTrip': WHATEVER THE INPUT: true; the input reads as it did. -/
def derRoundTripSpec : ChangeSpec := { name := "derRoundTrip", fn := fun _ => fun
  | [d1, d2] => { results := [.lit (.bool true)], args := [d1, d2] }
  | _ => none }
def derRoundTripRow : OpenClaim := { program := "ytffgchcidkapjaadoor", sum := "a0c12628ce941c2d6c6caa70c9e703c0c4e283bc4bac0ffc4ab5fbc8cd14ec21", func := "intrusion/intrusionlaw33.DerRoundTrip", spec := "derRoundTrip", inPlace := ["internal/bytealg.CountString", "internal/bytealg.IndexByteString", "internal/bytealg.IndexString"], unfollowed := true, recurses := true, named := ["unicode/utf8.first", "unicode/utf8.acceptRanges", "internal/bytealg.MaxLen"], loops := true, apart := false, laid := [("unicode/utf8.acceptRanges", laid_unicode_utf8_acceptRanges), ("unicode/utf8.first", laid_unicode_utf8_first)] }
def DerRoundTripSaid : Prop := derRoundTripRow.holds Tryd.pinned (OpenSpec.ofChange derRoundTripSpec)

/-- ITS FALSE NEIGHBOUR: 'it returns false'. Refute it at one input. -/
def derRoundTripWrong : ChangeSpec := { name := "derRoundTrip", fn := fun _ => fun
  | [d1, d2] => { results := [.lit (.bool false)], args := [d1, d2] }
  | _ => none }
def DerRoundTripWrongFalsely : Prop := derRoundTripRow.holds Tryd.pinned (OpenSpec.ofChange derRoundTripWrong)

/-- 'intrusionlaw33.DerClock': WHATEVER THE INPUT: true; the input reads as it did. -/
def derClockSpec : ChangeSpec := { name := "derClock", fn := fun _ => fun
  | [d1, d2] => { results := [.lit (.bool true)], args := [d1, d2] }
  | _ => none }
def derClockRow : OpenClaim := { program := "ytffgchcidkapjaadoor", sum := "a0c12628ce941c2d6c6caa70c9e703c0c4e283bc4bac0ffc4ab5fbc8cd14ec21", func := "intrusion/intrusionlaw33.DerClock", spec := "derClock", inPlace := ["internal/bytealg.CountString", "internal/bytealg.IndexByteString", "internal/bytealg.IndexString"], unfollowed := true, recurses := true, named := ["unicode/utf8.first", "unicode/utf8.acceptRanges", "internal/bytealg.MaxLen"], apart := false, laid := [("unicode/utf8.acceptRanges", laid_unicode_utf8_acceptRanges), ("unicode/utf8.first", laid_unicode_utf8_first)] }
def DerClockSaid : Prop := derClockRow.holds Tryd.pinned (OpenSpec.ofChange derClockSpec)

/-- ITS FALSE NEIGHBOUR: 'it returns false'. Refute it at one input. -/
def derClockWrong : ChangeSpec := { name := "derClock", fn := fun _ => fun
  | [d1, d2] => { results := [.lit (.bool false)], args := [d1, d2] }
  | _ => none }
def DerClockWrongFalsely : Prop := derClockRow.holds Tryd.pinned (OpenSpec.ofChange derClockWrong)

/-- 'intrusionlaw33.DerOids': WHATEVER THE INPUT: true; the input reads as it did. -/
def derOidsSpec : ChangeSpec := { name := "derOids", fn := fun _ => fun
  | [d1, d2] => { results := [.lit (.bool true)], args := [d1, d2] }
  | _ => none }
def derOidsRow : OpenClaim := { program := "ytffgchcidkapjaadoor", sum := "a0c12628ce941c2d6c6caa70c9e703c0c4e283bc4bac0ffc4ab5fbc8cd14ec21", func := "intrusion/intrusionlaw33.DerOids", spec := "derOids", inPlace := ["internal/bytealg.CountString", "internal/bytealg.IndexByteString", "internal/bytealg.IndexString"], unfollowed := true, recurses := true, named := ["unicode/utf8.first", "unicode/utf8.acceptRanges", "internal/bytealg.MaxLen", "internal/strconv.uint64pow10", "math/bits.deBruijn32tab", "math/bits.deBruijn64tab"], loops := true, apart := false, laid := [("math/bits.deBruijn32tab", laid_math_bits_deBruijn32tab), ("math/bits.deBruijn64tab", laid_math_bits_deBruijn64tab), ("internal/strconv.uint64pow10", laid_internal_strconv_uint64pow10), ("unicode/utf8.acceptRanges", laid_unicode_utf8_acceptRanges), ("unicode/utf8.first", laid_unicode_utf8_first)] }
def DerOidsSaid : Prop := derOidsRow.holds Tryd.pinned (OpenSpec.ofChange derOidsSpec)

/-- ITS FALSE NEIGHBOUR: 'it returns false'. Refute it at one input. -/
def derOidsWrong : ChangeSpec := { name := "derOids", fn := fun _ => fun
  | [d1, d2] => { results := [.lit (.bool false)], args := [d1, d2] }
  | _ => none }
def DerOidsWrongFalsely : Prop := derOidsRow.holds Tryd.pinned (OpenSpec.ofChange derOidsWrong)

/-- 'intrusionlaw33.DerInverse': WHATEVER THE INPUT: true; the input reads as it did. -/
def derInverseSpec : ChangeSpec := { name := "derInverse", fn := fun _ => fun
  | [d1, d2] => { results := [.lit (.bool true)], args := [d1, d2] }
  | _ => none }
def derInverseRow : OpenClaim := { program := "ytffgchcidkapjaadoor", sum := "a0c12628ce941c2d6c6caa70c9e703c0c4e283bc4bac0ffc4ab5fbc8cd14ec21", func := "intrusion/intrusionlaw33.DerInverse", spec := "derInverse", inPlace := ["internal/bytealg.CountString", "internal/bytealg.IndexByteString", "internal/bytealg.IndexString"], unfollowed := true, recurses := true, named := ["unicode/utf8.first", "unicode/utf8.acceptRanges", "internal/bytealg.MaxLen", "internal/strconv.uint64pow10", "math/bits.deBruijn32tab", "math/bits.deBruijn64tab"], apart := false, laid := [("math/bits.deBruijn32tab", laid_math_bits_deBruijn32tab), ("math/bits.deBruijn64tab", laid_math_bits_deBruijn64tab), ("internal/strconv.uint64pow10", laid_internal_strconv_uint64pow10), ("unicode/utf8.acceptRanges", laid_unicode_utf8_acceptRanges), ("unicode/utf8.first", laid_unicode_utf8_first)] }
def DerInverseSaid : Prop := derInverseRow.holds Tryd.pinned (OpenSpec.ofChange derInverseSpec)

/-- ITS FALSE NEIGHBOUR: 'it returns false'. Refute it at one input. -/
def derInverseWrong : ChangeSpec := { name := "derInverse", fn := fun _ => fun
  | [d1, d2] => { results := [.lit (.bool false)], args := [d1, d2] }
  | _ => none }
def DerInverseWrongFalsely : Prop := derInverseRow.holds Tryd.pinned (OpenSpec.ofChange derInverseWrong)

/- THE SECOND FORM. 'bulk': how many values and letters a reading holds, each counted each time it is reached (what is shared counts as often as it is met; a slice's spare places count too). A statement '..UptoSaid' is the law's where the arguments, and the package variables that the reading takes, are together of bulk at most 1048576: NARROWER than '..Said'. Prove '..Said' where nothing that the law and all that it calls make is longer than what came in: it says more and counts as full. Else prove '..UptoSaid'. A law counts once. -/
mutual
def uptoBulk {H : Type} : DataW H → Nat
  | .lit (.string bytes) => bytes.length + 1
  | .lit _ => 1
  | .nil => 1
  | .ptr d => uptoBulk d + 1
  | .slice elems spare => uptoBulkAll elems + uptoBulkAll spare + 1
  | .agg parts => uptoBulkAll parts + 1
  | .iface _ d => uptoBulk d + 1
  | .map entries => uptoBulkEntries entries + 1
  | .held _ => 1
def uptoBulkAll {H : Type} : List (DataW H) → Nat
  | [] => 0
  | d :: r => uptoBulk d + uptoBulkAll r
def uptoBulkEntries {H : Type} : List (Lit × DataW H) → Nat
  | [] => 0
  | x :: r => uptoBulkEntry x + uptoBulkEntries r
def uptoBulkEntry {H : Type} : Lit × DataW H → Nat
  | (.string bytes, d) => bytes.length + uptoBulk d + 1
  | (_, d) => uptoBulk d + 1
 end
def uptoSmall : (H : Type) → List (DataW H) → Bool := fun _ ds => decide (uptoBulkAll ds ≤ 1048576)
def OpenSpec.upto (s : _root_.Go.ChangeSpec) : _root_.Go.OpenSpec := { _root_.Go.OpenSpec.ofChange s with cond := some uptoSmall }

/-- 'intrusionlaw33.DerDecodes', WHERE WHAT IT READS IS OF BULK AT MOST 1048576: true; the input reads as it did. -/
def derDecodesUptoRow : OpenClaim := { program := "ytffgchcidkapjaadoor", sum := "a0c12628ce941c2d6c6caa70c9e703c0c4e283bc4bac0ffc4ab5fbc8cd14ec21", func := "intrusion/intrusionlaw33.DerDecodes", spec := "derDecodes", inPlace := ["internal/bytealg.CountString", "internal/bytealg.IndexByteString", "internal/bytealg.IndexString"], unfollowed := true, recurses := true, named := ["unicode/utf8.first", "unicode/utf8.acceptRanges", "internal/bytealg.MaxLen"], apart := false, laid := [("unicode/utf8.acceptRanges", laid_unicode_utf8_acceptRanges), ("unicode/utf8.first", laid_unicode_utf8_first)], narrowed := true }
def DerDecodesUptoSaid : Prop := derDecodesUptoRow.holds Tryd.pinned (OpenSpec.upto derDecodesSpec)

/-- 'intrusionlaw33.DerEncodes', WHERE WHAT IT READS IS OF BULK AT MOST 1048576: true; the input reads as it did. -/
def derEncodesUptoRow : OpenClaim := { program := "ytffgchcidkapjaadoor", sum := "a0c12628ce941c2d6c6caa70c9e703c0c4e283bc4bac0ffc4ab5fbc8cd14ec21", func := "intrusion/intrusionlaw33.DerEncodes", spec := "derEncodes", inPlace := ["internal/bytealg.CountString", "internal/bytealg.IndexByteString", "internal/bytealg.IndexString"], unfollowed := true, recurses := true, named := ["unicode/utf8.first", "unicode/utf8.acceptRanges", "internal/bytealg.MaxLen"], loops := true, apart := false, laid := [("unicode/utf8.acceptRanges", laid_unicode_utf8_acceptRanges), ("unicode/utf8.first", laid_unicode_utf8_first)], narrowed := true }
def DerEncodesUptoSaid : Prop := derEncodesUptoRow.holds Tryd.pinned (OpenSpec.upto derEncodesSpec)

/-- 'intrusionlaw33.DerNumbers', WHERE WHAT IT READS IS OF BULK AT MOST 1048576: true; the input reads as it did. -/
def derNumbersUptoRow : OpenClaim := { program := "ytffgchcidkapjaadoor", sum := "a0c12628ce941c2d6c6caa70c9e703c0c4e283bc4bac0ffc4ab5fbc8cd14ec21", func := "intrusion/intrusionlaw33.DerNumbers", spec := "derNumbers", inPlace := ["internal/bytealg.CountString", "internal/bytealg.IndexByteString", "internal/bytealg.IndexString"], unfollowed := true, recurses := true, named := ["unicode/utf8.first", "unicode/utf8.acceptRanges", "internal/bytealg.MaxLen"], loops := true, apart := false, laid := [("unicode/utf8.acceptRanges", laid_unicode_utf8_acceptRanges), ("unicode/utf8.first", laid_unicode_utf8_first)], narrowed := true }
def DerNumbersUptoSaid : Prop := derNumbersUptoRow.holds Tryd.pinned (OpenSpec.upto derNumbersSpec)

/-- 'intrusionlaw33.DerTimes', WHERE WHAT IT READS IS OF BULK AT MOST 1048576: true; the input reads as it did. -/
def derTimesUptoRow : OpenClaim := { program := "ytffgchcidkapjaadoor", sum := "a0c12628ce941c2d6c6caa70c9e703c0c4e283bc4bac0ffc4ab5fbc8cd14ec21", func := "intrusion/intrusionlaw33.DerTimes", spec := "derTimes", inPlace := ["internal/bytealg.CountString", "internal/bytealg.IndexByteString", "internal/bytealg.IndexString"], unfollowed := true, recurses := true, named := ["unicode/utf8.first", "unicode/utf8.acceptRanges", "internal/bytealg.MaxLen"], loops := true, apart := false, laid := [("unicode/utf8.acceptRanges", laid_unicode_utf8_acceptRanges), ("unicode/utf8.first", laid_unicode_utf8_first)], narrowed := true }
def DerTimesUptoSaid : Prop := derTimesUptoRow.holds Tryd.pinned (OpenSpec.upto derTimesSpec)

/-- 'intrusionlaw33.DerRoundTrip', WHERE WHAT IT READS IS OF BULK AT MOST 1048576: true; the input reads as it did. -/
def derRoundTripUptoRow : OpenClaim := { program := "ytffgchcidkapjaadoor", sum := "a0c12628ce941c2d6c6caa70c9e703c0c4e283bc4bac0ffc4ab5fbc8cd14ec21", func := "intrusion/intrusionlaw33.DerRoundTrip", spec := "derRoundTrip", inPlace := ["internal/bytealg.CountString", "internal/bytealg.IndexByteString", "internal/bytealg.IndexString"], unfollowed := true, recurses := true, named := ["unicode/utf8.first", "unicode/utf8.acceptRanges", "internal/bytealg.MaxLen"], loops := true, apart := false, laid := [("unicode/utf8.acceptRanges", laid_unicode_utf8_acceptRanges), ("unicode/utf8.first", laid_unicode_utf8_first)], narrowed := true }
def DerRoundTripUptoSaid : Prop := derRoundTripUptoRow.holds Tryd.pinned (OpenSpec.upto derRoundTripSpec)

/-- 'intrusionlaw33.DerClock', WHERE WHAT IT READS IS OF BULK AT MOST 1048576: true; the input reads as it did. -/
def derClockUptoRow : OpenClaim := { program := "ytffgchcidkapjaadoor", sum := "a0c12628ce941c2d6c6caa70c9e703c0c4e283bc4bac0ffc4ab5fbc8cd14ec21", func := "intrusion/intrusionlaw33.DerClock", spec := "derClock", inPlace := ["internal/bytealg.CountString", "internal/bytealg.IndexByteString", "internal/bytealg.IndexString"], unfollowed := true, recurses := true, named := ["unicode/utf8.first", "unicode/utf8.acceptRanges", "internal/bytealg.MaxLen"], apart := false, laid := [("unicode/utf8.acceptRanges", laid_unicode_utf8_acceptRanges), ("unicode/utf8.first", laid_unicode_utf8_first)], narrowed := true }
def DerClockUptoSaid : Prop := derClockUptoRow.holds Tryd.pinned (OpenSpec.upto derClockSpec)

/-- 'intrusionlaw33.DerOids', WHERE WHAT IT READS IS OF BULK AT MOST 1048576: true; the input reads as it did. -/
def derOidsUptoRow : OpenClaim := { program := "ytffgchcidkapjaadoor", sum := "a0c12628ce941c2d6c6caa70c9e703c0c4e283bc4bac0ffc4ab5fbc8cd14ec21", func := "intrusion/intrusionlaw33.DerOids", spec := "derOids", inPlace := ["internal/bytealg.CountString", "internal/bytealg.IndexByteString", "internal/bytealg.IndexString"], unfollowed := true, recurses := true, named := ["unicode/utf8.first", "unicode/utf8.acceptRanges", "internal/bytealg.MaxLen", "internal/strconv.uint64pow10", "math/bits.deBruijn32tab", "math/bits.deBruijn64tab"], loops := true, apart := false, laid := [("math/bits.deBruijn32tab", laid_math_bits_deBruijn32tab), ("math/bits.deBruijn64tab", laid_math_bits_deBruijn64tab), ("internal/strconv.uint64pow10", laid_internal_strconv_uint64pow10), ("unicode/utf8.acceptRanges", laid_unicode_utf8_acceptRanges), ("unicode/utf8.first", laid_unicode_utf8_first)], narrowed := true }
def DerOidsUptoSaid : Prop := derOidsUptoRow.holds Tryd.pinned (OpenSpec.upto derOidsSpec)

/-- 'intrusionlaw33.DerInverse', WHERE WHAT IT READS IS OF BULK AT MOST 1048576: true; the input reads as it did. -/
def derInverseUptoRow : OpenClaim := { program := "ytffgchcidkapjaadoor", sum := "a0c12628ce941c2d6c6caa70c9e703c0c4e283bc4bac0ffc4ab5fbc8cd14ec21", func := "intrusion/intrusionlaw33.DerInverse", spec := "derInverse", inPlace := ["internal/bytealg.CountString", "internal/bytealg.IndexByteString", "internal/bytealg.IndexString"], unfollowed := true, recurses := true, named := ["unicode/utf8.first", "unicode/utf8.acceptRanges", "internal/bytealg.MaxLen", "internal/strconv.uint64pow10", "math/bits.deBruijn32tab", "math/bits.deBruijn64tab"], apart := false, laid := [("math/bits.deBruijn32tab", laid_math_bits_deBruijn32tab), ("math/bits.deBruijn64tab", laid_math_bits_deBruijn64tab), ("internal/strconv.uint64pow10", laid_internal_strconv_uint64pow10), ("unicode/utf8.acceptRanges", laid_unicode_utf8_acceptRanges), ("unicode/utf8.first", laid_unicode_utf8_first)], narrowed := true }
def DerInverseUptoSaid : Prop := derInverseUptoRow.holds Tryd.pinned (OpenSpec.upto derInverseSpec)

end Rows
end Go.Proofs.YtffgchcidkapjaaDoor
