/-
  NARROWER THAN 'FOR EVERY INPUT', by the rows' own cells (each row's printed sentence says how): StreamPlays: laid · StreamTwo: laid · StreamWhole: laid · StreamCuts: laid · StreamCleans: laid · StreamMarks: laid · StreamStops: laid · StreamUnquotes: laid · StreamQuotes: laid · StreamEvents: laid · StreamReads: laid.
  DERIVED. THE GIVEN ROWS OF THIS SEAT. 11 by the template 'for every input the law returns true; each argument reads behind the call as it read before'; 0 by the template 'total and deterministic' (their statements: YtpnhfkmgnkdleaaDoorTotals.lean).
  GIVEN WITH THE SEED: the statements are not yours to turn. If you find one false, say at which input.
  Laid BY PROGRAM, IN A SANDBOX (cutbox-rows.mjs): the forced cells as the released guide's own fill.sh prints them over the translation 51b76aa82f8f0523… (all of the seat's roots in one cut). By AI agents, Wed Nov 11 2026. No macro, syntax, notation, axiom, sorry.
-/
import Derived.Test.YtpnhfkmgnkdleaaDoorChecked
import GoSem.PinnedTables
import GoSem.Claim
import GoSem.ClaimJoined
import GoSem.ClaimMapViews
import Derived.JoinedTies
import Derived.KernelRfl
namespace Go.Proofs.YtpnhfkmgnkdleaaDoor
/- THE CELL 'sum', in the pinned program and in every row, IS THE sha256 OF THE DUMP (.gsa) THAT YtpnhfkmgnkdleaaDoorProg.lean LOADS. Nothing in Lean hashes anything: it is a label: what it is worth is what the hold of that sum in a sandbox is worth. -/
noncomputable def Tryd.pinned : Pinned := { name := "ytpnhfkmgnkdleaadoor", sum := "51b76aa82f8f0523b670ebe186181bcfe4f73c58011e85f958357ecc66b93827", checked := Tryd.checked }
namespace Rows
def none {H : Type} : Left H := { results := [], args := [] }

/- WHAT THE LISTED PACKAGE-LEVEL VARIABLES READ AS WHEN THE CALL BEGINS. Each datum BY PROGRAM (the guide's laid-datum.mjs) off the statement by which the dump's own 'gosem.cut.vars' lays the variable. In a bare row this is a premise. The card (YtpnhfkmgnkdleaaDoorCards.lean) ties it to the program's text. -/
def laid_unicode_utf8_acceptRanges {H : Type} : DataW H := .agg [.agg [.lit (.int .u8 128), .lit (.int .u8 191)], .agg [.lit (.int .u8 160), .lit (.int .u8 191)], .agg [.lit (.int .u8 128), .lit (.int .u8 159)], .agg [.lit (.int .u8 144), .lit (.int .u8 191)], .agg [.lit (.int .u8 128), .lit (.int .u8 143)], .agg [.lit (.int .u8 0), .lit (.int .u8 0)], .agg [.lit (.int .u8 0), .lit (.int .u8 0)], .agg [.lit (.int .u8 0), .lit (.int .u8 0)], .agg [.lit (.int .u8 0), .lit (.int .u8 0)], .agg [.lit (.int .u8 0), .lit (.int .u8 0)], .agg [.lit (.int .u8 0), .lit (.int .u8 0)], .agg [.lit (.int .u8 0), .lit (.int .u8 0)], .agg [.lit (.int .u8 0), .lit (.int .u8 0)], .agg [.lit (.int .u8 0), .lit (.int .u8 0)], .agg [.lit (.int .u8 0), .lit (.int .u8 0)], .agg [.lit (.int .u8 0), .lit (.int .u8 0)]]
/-- One of Go's own tables, pinned by name: the form's constant. -/
def laid_unicode_utf8_first : DataW Unit := Go.Pinned.utf8First

/-- 'heraldlaw14.StreamPlays': WHATEVER THE INPUT: true; the input reads as it did. -/
def streamPlaysSpec : ChangeSpec := { name := "streamPlays", fn := fun _ => fun
  | [d1, d2] => { results := [.lit (.bool true)], args := [d1, d2] }
  | _ => none }
def streamPlaysRow : OpenClaim := { program := "ytpnhfkmgnkdleaadoor", sum := "51b76aa82f8f0523b670ebe186181bcfe4f73c58011e85f958357ecc66b93827", func := "herald/heraldlaw14.StreamPlays", spec := "streamPlays", inPlace := ["internal/abi.NoEscape"], named := ["unicode/utf8.first", "unicode/utf8.acceptRanges"], apart := false, laid := [("unicode/utf8.acceptRanges", laid_unicode_utf8_acceptRanges), ("unicode/utf8.first", laid_unicode_utf8_first)] }
def StreamPlaysSaid : Prop := streamPlaysRow.holds Tryd.pinned (OpenSpec.ofChange streamPlaysSpec)

/-- ITS FALSE NEIGHBOUR: 'it returns false'. Refute it at one input. -/
def streamPlaysWrong : ChangeSpec := { name := "streamPlays", fn := fun _ => fun
  | [d1, d2] => { results := [.lit (.bool false)], args := [d1, d2] }
  | _ => none }
def StreamPlaysWrongFalsely : Prop := streamPlaysRow.holds Tryd.pinned (OpenSpec.ofChange streamPlaysWrong)

/-- 'heraldlaw14.StreamTwo': WHATEVER THE INPUT: true; the input reads as it did. -/
def streamTwoSpec : ChangeSpec := { name := "streamTwo", fn := fun _ => fun
  | [d1, d2, d3] => { results := [.lit (.bool true)], args := [d1, d2, d3] }
  | _ => none }
def streamTwoRow : OpenClaim := { program := "ytpnhfkmgnkdleaadoor", sum := "51b76aa82f8f0523b670ebe186181bcfe4f73c58011e85f958357ecc66b93827", func := "herald/heraldlaw14.StreamTwo", spec := "streamTwo", inPlace := ["internal/abi.NoEscape"], named := ["unicode/utf8.first", "unicode/utf8.acceptRanges"], apart := false, laid := [("unicode/utf8.acceptRanges", laid_unicode_utf8_acceptRanges), ("unicode/utf8.first", laid_unicode_utf8_first)] }
def StreamTwoSaid : Prop := streamTwoRow.holds Tryd.pinned (OpenSpec.ofChange streamTwoSpec)

/-- ITS FALSE NEIGHBOUR: 'it returns false'. Refute it at one input. -/
def streamTwoWrong : ChangeSpec := { name := "streamTwo", fn := fun _ => fun
  | [d1, d2, d3] => { results := [.lit (.bool false)], args := [d1, d2, d3] }
  | _ => none }
def StreamTwoWrongFalsely : Prop := streamTwoRow.holds Tryd.pinned (OpenSpec.ofChange streamTwoWrong)

/-- 'heraldlaw14.StreamWhole': WHATEVER THE INPUT: true; the input reads as it did. -/
def streamWholeSpec : ChangeSpec := { name := "streamWhole", fn := fun _ => fun
  | [d1, d2] => { results := [.lit (.bool true)], args := [d1, d2] }
  | _ => none }
def streamWholeRow : OpenClaim := { program := "ytpnhfkmgnkdleaadoor", sum := "51b76aa82f8f0523b670ebe186181bcfe4f73c58011e85f958357ecc66b93827", func := "herald/heraldlaw14.StreamWhole", spec := "streamWhole", inPlace := ["internal/abi.NoEscape"], named := ["unicode/utf8.first", "unicode/utf8.acceptRanges"], apart := false, laid := [("unicode/utf8.acceptRanges", laid_unicode_utf8_acceptRanges), ("unicode/utf8.first", laid_unicode_utf8_first)] }
def StreamWholeSaid : Prop := streamWholeRow.holds Tryd.pinned (OpenSpec.ofChange streamWholeSpec)

/-- ITS FALSE NEIGHBOUR: 'it returns false'. Refute it at one input. -/
def streamWholeWrong : ChangeSpec := { name := "streamWhole", fn := fun _ => fun
  | [d1, d2] => { results := [.lit (.bool false)], args := [d1, d2] }
  | _ => none }
def StreamWholeWrongFalsely : Prop := streamWholeRow.holds Tryd.pinned (OpenSpec.ofChange streamWholeWrong)

/-- 'heraldlaw14.StreamCuts': WHATEVER THE INPUT: true; the input reads as it did. -/
def streamCutsSpec : ChangeSpec := { name := "streamCuts", fn := fun _ => fun
  | [d1, d2, d3] => { results := [.lit (.bool true)], args := [d1, d2, d3] }
  | _ => none }
def streamCutsRow : OpenClaim := { program := "ytpnhfkmgnkdleaadoor", sum := "51b76aa82f8f0523b670ebe186181bcfe4f73c58011e85f958357ecc66b93827", func := "herald/heraldlaw14.StreamCuts", spec := "streamCuts", inPlace := ["internal/abi.NoEscape"], named := ["unicode/utf8.first", "unicode/utf8.acceptRanges"], apart := false, laid := [("unicode/utf8.acceptRanges", laid_unicode_utf8_acceptRanges), ("unicode/utf8.first", laid_unicode_utf8_first)] }
def StreamCutsSaid : Prop := streamCutsRow.holds Tryd.pinned (OpenSpec.ofChange streamCutsSpec)

/-- ITS FALSE NEIGHBOUR: 'it returns false'. Refute it at one input. -/
def streamCutsWrong : ChangeSpec := { name := "streamCuts", fn := fun _ => fun
  | [d1, d2, d3] => { results := [.lit (.bool false)], args := [d1, d2, d3] }
  | _ => none }
def StreamCutsWrongFalsely : Prop := streamCutsRow.holds Tryd.pinned (OpenSpec.ofChange streamCutsWrong)

/-- 'heraldlaw14.StreamCleans': WHATEVER THE INPUT: true; the input reads as it did. -/
def streamCleansSpec : ChangeSpec := { name := "streamCleans", fn := fun _ => fun
  | [d] => { results := [.lit (.bool true)], args := [d] }
  | _ => none }
def streamCleansRow : OpenClaim := { program := "ytpnhfkmgnkdleaadoor", sum := "51b76aa82f8f0523b670ebe186181bcfe4f73c58011e85f958357ecc66b93827", func := "herald/heraldlaw14.StreamCleans", spec := "streamCleans", inPlace := ["internal/abi.NoEscape", "internal/bytealg.MakeNoZero"], named := ["unicode/utf8.first", "unicode/utf8.acceptRanges"], apart := false, laid := [("unicode/utf8.acceptRanges", laid_unicode_utf8_acceptRanges), ("unicode/utf8.first", laid_unicode_utf8_first)] }
def StreamCleansSaid : Prop := streamCleansRow.holds Tryd.pinned (OpenSpec.ofChange streamCleansSpec)

/-- ITS FALSE NEIGHBOUR: 'it returns false'. Refute it at one input. -/
def streamCleansWrong : ChangeSpec := { name := "streamCleans", fn := fun _ => fun
  | [d] => { results := [.lit (.bool false)], args := [d] }
  | _ => none }
def StreamCleansWrongFalsely : Prop := streamCleansRow.holds Tryd.pinned (OpenSpec.ofChange streamCleansWrong)

/-- 'heraldlaw14.StreamMarks': WHATEVER THE INPUT: true; the input reads as it did. -/
def streamMarksSpec : ChangeSpec := { name := "streamMarks", fn := fun _ => fun
  | [d] => { results := [.lit (.bool true)], args := [d] }
  | _ => none }
def streamMarksRow : OpenClaim := { program := "ytpnhfkmgnkdleaadoor", sum := "51b76aa82f8f0523b670ebe186181bcfe4f73c58011e85f958357ecc66b93827", func := "herald/heraldlaw14.StreamMarks", spec := "streamMarks", inPlace := ["internal/abi.NoEscape", "internal/bytealg.MakeNoZero"], named := ["unicode/utf8.first", "unicode/utf8.acceptRanges"], apart := false, laid := [("unicode/utf8.acceptRanges", laid_unicode_utf8_acceptRanges), ("unicode/utf8.first", laid_unicode_utf8_first)] }
def StreamMarksSaid : Prop := streamMarksRow.holds Tryd.pinned (OpenSpec.ofChange streamMarksSpec)

/-- ITS FALSE NEIGHBOUR: 'it returns false'. Refute it at one input. -/
def streamMarksWrong : ChangeSpec := { name := "streamMarks", fn := fun _ => fun
  | [d] => { results := [.lit (.bool false)], args := [d] }
  | _ => none }
def StreamMarksWrongFalsely : Prop := streamMarksRow.holds Tryd.pinned (OpenSpec.ofChange streamMarksWrong)

/-- 'heraldlaw14.StreamStops': WHATEVER THE INPUT: true; the input reads as it did. -/
def streamStopsSpec : ChangeSpec := { name := "streamStops", fn := fun _ => fun
  | [d1, d2] => { results := [.lit (.bool true)], args := [d1, d2] }
  | _ => none }
def streamStopsRow : OpenClaim := { program := "ytpnhfkmgnkdleaadoor", sum := "51b76aa82f8f0523b670ebe186181bcfe4f73c58011e85f958357ecc66b93827", func := "herald/heraldlaw14.StreamStops", spec := "streamStops", inPlace := ["internal/abi.NoEscape", "internal/bytealg.IndexByteString", "internal/bytealg.IndexString"], named := ["unicode/utf8.first", "unicode/utf8.acceptRanges", "internal/bytealg.MaxLen"], apart := false, laid := [("unicode/utf8.acceptRanges", laid_unicode_utf8_acceptRanges), ("unicode/utf8.first", laid_unicode_utf8_first)] }
def StreamStopsSaid : Prop := streamStopsRow.holds Tryd.pinned (OpenSpec.ofChange streamStopsSpec)

/-- ITS FALSE NEIGHBOUR: 'it returns false'. Refute it at one input. -/
def streamStopsWrong : ChangeSpec := { name := "streamStops", fn := fun _ => fun
  | [d1, d2] => { results := [.lit (.bool false)], args := [d1, d2] }
  | _ => none }
def StreamStopsWrongFalsely : Prop := streamStopsRow.holds Tryd.pinned (OpenSpec.ofChange streamStopsWrong)

/-- 'heraldlaw14.StreamUnquotes': WHATEVER THE INPUT: true; the input reads as it did. -/
def streamUnquotesSpec : ChangeSpec := { name := "streamUnquotes", fn := fun _ => fun
  | [d1, d2] => { results := [.lit (.bool true)], args := [d1, d2] }
  | _ => none }
def streamUnquotesRow : OpenClaim := { program := "ytpnhfkmgnkdleaadoor", sum := "51b76aa82f8f0523b670ebe186181bcfe4f73c58011e85f958357ecc66b93827", func := "herald/heraldlaw14.StreamUnquotes", spec := "streamUnquotes", inPlace := ["internal/abi.NoEscape", "internal/bytealg.IndexByteString"], named := ["unicode/utf8.first", "unicode/utf8.acceptRanges"], apart := false, laid := [("unicode/utf8.acceptRanges", laid_unicode_utf8_acceptRanges), ("unicode/utf8.first", laid_unicode_utf8_first)] }
def StreamUnquotesSaid : Prop := streamUnquotesRow.holds Tryd.pinned (OpenSpec.ofChange streamUnquotesSpec)

/-- ITS FALSE NEIGHBOUR: 'it returns false'. Refute it at one input. -/
def streamUnquotesWrong : ChangeSpec := { name := "streamUnquotes", fn := fun _ => fun
  | [d1, d2] => { results := [.lit (.bool false)], args := [d1, d2] }
  | _ => none }
def StreamUnquotesWrongFalsely : Prop := streamUnquotesRow.holds Tryd.pinned (OpenSpec.ofChange streamUnquotesWrong)

/-- 'heraldlaw14.StreamQuotes': WHATEVER THE INPUT: true; the input reads as it did. -/
def streamQuotesSpec : ChangeSpec := { name := "streamQuotes", fn := fun _ => fun
  | [d] => { results := [.lit (.bool true)], args := [d] }
  | _ => none }
def streamQuotesRow : OpenClaim := { program := "ytpnhfkmgnkdleaadoor", sum := "51b76aa82f8f0523b670ebe186181bcfe4f73c58011e85f958357ecc66b93827", func := "herald/heraldlaw14.StreamQuotes", spec := "streamQuotes", inPlace := ["internal/abi.NoEscape", "internal/bytealg.IndexByteString"], named := ["unicode/utf8.first", "unicode/utf8.acceptRanges"], apart := false, laid := [("unicode/utf8.acceptRanges", laid_unicode_utf8_acceptRanges), ("unicode/utf8.first", laid_unicode_utf8_first)] }
def StreamQuotesSaid : Prop := streamQuotesRow.holds Tryd.pinned (OpenSpec.ofChange streamQuotesSpec)

/-- ITS FALSE NEIGHBOUR: 'it returns false'. Refute it at one input. -/
def streamQuotesWrong : ChangeSpec := { name := "streamQuotes", fn := fun _ => fun
  | [d] => { results := [.lit (.bool false)], args := [d] }
  | _ => none }
def StreamQuotesWrongFalsely : Prop := streamQuotesRow.holds Tryd.pinned (OpenSpec.ofChange streamQuotesWrong)

/-- 'heraldlaw14.StreamEvents': WHATEVER THE INPUT: true; the input reads as it did. -/
def streamEventsSpec : ChangeSpec := { name := "streamEvents", fn := fun _ => fun
  | [d1, d2, d3] => { results := [.lit (.bool true)], args := [d1, d2, d3] }
  | _ => none }
def streamEventsRow : OpenClaim := { program := "ytpnhfkmgnkdleaadoor", sum := "51b76aa82f8f0523b670ebe186181bcfe4f73c58011e85f958357ecc66b93827", func := "herald/heraldlaw14.StreamEvents", spec := "streamEvents", inPlace := ["internal/abi.NoEscape", "internal/bytealg.IndexByteString", "internal/bytealg.IndexString", "internal/bytealg.CountString", "internal/bytealg.MakeNoZero"], named := ["unicode/utf8.first", "unicode/utf8.acceptRanges", "internal/bytealg.MaxLen"], apart := false, laid := [("unicode/utf8.acceptRanges", laid_unicode_utf8_acceptRanges), ("unicode/utf8.first", laid_unicode_utf8_first)] }
def StreamEventsSaid : Prop := streamEventsRow.holds Tryd.pinned (OpenSpec.ofChange streamEventsSpec)

/-- ITS FALSE NEIGHBOUR: 'it returns false'. Refute it at one input. -/
def streamEventsWrong : ChangeSpec := { name := "streamEvents", fn := fun _ => fun
  | [d1, d2, d3] => { results := [.lit (.bool false)], args := [d1, d2, d3] }
  | _ => none }
def StreamEventsWrongFalsely : Prop := streamEventsRow.holds Tryd.pinned (OpenSpec.ofChange streamEventsWrong)

/-- 'heraldlaw14.StreamReads': WHATEVER THE INPUT: true; the input reads as it did. -/
def streamReadsSpec : ChangeSpec := { name := "streamReads", fn := fun _ => fun
  | [d1, d2] => { results := [.lit (.bool true)], args := [d1, d2] }
  | _ => none }
def streamReadsRow : OpenClaim := { program := "ytpnhfkmgnkdleaadoor", sum := "51b76aa82f8f0523b670ebe186181bcfe4f73c58011e85f958357ecc66b93827", func := "herald/heraldlaw14.StreamReads", spec := "streamReads", inPlace := ["internal/abi.NoEscape", "internal/bytealg.IndexByteString", "internal/bytealg.IndexString", "internal/bytealg.CountString", "internal/bytealg.MakeNoZero"], named := ["unicode/utf8.first", "unicode/utf8.acceptRanges", "internal/bytealg.MaxLen"], apart := false, laid := [("unicode/utf8.acceptRanges", laid_unicode_utf8_acceptRanges), ("unicode/utf8.first", laid_unicode_utf8_first)] }
def StreamReadsSaid : Prop := streamReadsRow.holds Tryd.pinned (OpenSpec.ofChange streamReadsSpec)

/-- ITS FALSE NEIGHBOUR: 'it returns false'. Refute it at one input. -/
def streamReadsWrong : ChangeSpec := { name := "streamReads", fn := fun _ => fun
  | [d1, d2] => { results := [.lit (.bool false)], args := [d1, d2] }
  | _ => none }
def StreamReadsWrongFalsely : Prop := streamReadsRow.holds Tryd.pinned (OpenSpec.ofChange streamReadsWrong)

/- THE SECOND FORM. 'bulk': how many values and letters a reading holds, each counted each time it is reached (what is shared counts as often as it is met; a slice's spare places count too). A statement '..UptoSaid' is the law's where the arguments, and the package variables that the reading takes, are together of bulk at most 1048576: NARROWER than '..Said'. Prove '..Said' where nothing that the law and all that it calls make is longer than what came in: it says more and counts as full. Else prove '..UptoSaid'. A law counts once. -/
mutual
def uptoBulk {H : Type} : DataW H → Nat
  | .lit (.string bytes) => bytes.length + 1
  | .lit _ => 1
  | .nil => 1
  | .ptr d => uptoBulk d + 1
  | .slice elems spare => uptoBulkAll elems + uptoBulkAll spare + 1
  | .agg parts => uptoBulkAll parts + 1
  | .iface _ d => uptoBulk d + 1
  | .map entries => uptoBulkEntries entries + 1
  | .held _ => 1
def uptoBulkAll {H : Type} : List (DataW H) → Nat
  | [] => 0
  | d :: r => uptoBulk d + uptoBulkAll r
def uptoBulkEntries {H : Type} : List (Lit × DataW H) → Nat
  | [] => 0
  | x :: r => uptoBulkEntry x + uptoBulkEntries r
def uptoBulkEntry {H : Type} : Lit × DataW H → Nat
  | (.string bytes, d) => bytes.length + uptoBulk d + 1
  | (_, d) => uptoBulk d + 1
 end
def uptoSmall : (H : Type) → List (DataW H) → Bool := fun _ ds => decide (uptoBulkAll ds ≤ 1048576)
def OpenSpec.upto (s : _root_.Go.ChangeSpec) : _root_.Go.OpenSpec := { _root_.Go.OpenSpec.ofChange s with cond := some uptoSmall }

/-- 'heraldlaw14.StreamPlays', WHERE WHAT IT READS IS OF BULK AT MOST 1048576: true; the input reads as it did. -/
def streamPlaysUptoRow : OpenClaim := { program := "ytpnhfkmgnkdleaadoor", sum := "51b76aa82f8f0523b670ebe186181bcfe4f73c58011e85f958357ecc66b93827", func := "herald/heraldlaw14.StreamPlays", spec := "streamPlays", inPlace := ["internal/abi.NoEscape"], named := ["unicode/utf8.first", "unicode/utf8.acceptRanges"], apart := false, laid := [("unicode/utf8.acceptRanges", laid_unicode_utf8_acceptRanges), ("unicode/utf8.first", laid_unicode_utf8_first)], narrowed := true }
def StreamPlaysUptoSaid : Prop := streamPlaysUptoRow.holds Tryd.pinned (OpenSpec.upto streamPlaysSpec)

/-- 'heraldlaw14.StreamTwo', WHERE WHAT IT READS IS OF BULK AT MOST 1048576: true; the input reads as it did. -/
def streamTwoUptoRow : OpenClaim := { program := "ytpnhfkmgnkdleaadoor", sum := "51b76aa82f8f0523b670ebe186181bcfe4f73c58011e85f958357ecc66b93827", func := "herald/heraldlaw14.StreamTwo", spec := "streamTwo", inPlace := ["internal/abi.NoEscape"], named := ["unicode/utf8.first", "unicode/utf8.acceptRanges"], apart := false, laid := [("unicode/utf8.acceptRanges", laid_unicode_utf8_acceptRanges), ("unicode/utf8.first", laid_unicode_utf8_first)], narrowed := true }
def StreamTwoUptoSaid : Prop := streamTwoUptoRow.holds Tryd.pinned (OpenSpec.upto streamTwoSpec)

/-- 'heraldlaw14.StreamWhole', WHERE WHAT IT READS IS OF BULK AT MOST 1048576: true; the input reads as it did. -/
def streamWholeUptoRow : OpenClaim := { program := "ytpnhfkmgnkdleaadoor", sum := "51b76aa82f8f0523b670ebe186181bcfe4f73c58011e85f958357ecc66b93827", func := "herald/heraldlaw14.StreamWhole", spec := "streamWhole", inPlace := ["internal/abi.NoEscape"], named := ["unicode/utf8.first", "unicode/utf8.acceptRanges"], apart := false, laid := [("unicode/utf8.acceptRanges", laid_unicode_utf8_acceptRanges), ("unicode/utf8.first", laid_unicode_utf8_first)], narrowed := true }
def StreamWholeUptoSaid : Prop := streamWholeUptoRow.holds Tryd.pinned (OpenSpec.upto streamWholeSpec)

/-- 'heraldlaw14.StreamCuts', WHERE WHAT IT READS IS OF BULK AT MOST 1048576: true; the input reads as it did. -/
def streamCutsUptoRow : OpenClaim := { program := "ytpnhfkmgnkdleaadoor", sum := "51b76aa82f8f0523b670ebe186181bcfe4f73c58011e85f958357ecc66b93827", func := "herald/heraldlaw14.StreamCuts", spec := "streamCuts", inPlace := ["internal/abi.NoEscape"], named := ["unicode/utf8.first", "unicode/utf8.acceptRanges"], apart := false, laid := [("unicode/utf8.acceptRanges", laid_unicode_utf8_acceptRanges), ("unicode/utf8.first", laid_unicode_utf8_first)], narrowed := true }
def StreamCutsUptoSaid : Prop := streamCutsUptoRow.holds Tryd.pinned (OpenSpec.upto streamCutsSpec)

/-- 'heraldlaw14.StreamCleans', WHERE WHAT IT READS IS OF BULK AT MOST 1048576: true; the input reads as it did. -/
def streamCleansUptoRow : OpenClaim := { program := "ytpnhfkmgnkdleaadoor", sum := "51b76aa82f8f0523b670ebe186181bcfe4f73c58011e85f958357ecc66b93827", func := "herald/heraldlaw14.StreamCleans", spec := "streamCleans", inPlace := ["internal/abi.NoEscape", "internal/bytealg.MakeNoZero"], named := ["unicode/utf8.first", "unicode/utf8.acceptRanges"], apart := false, laid := [("unicode/utf8.acceptRanges", laid_unicode_utf8_acceptRanges), ("unicode/utf8.first", laid_unicode_utf8_first)], narrowed := true }
def StreamCleansUptoSaid : Prop := streamCleansUptoRow.holds Tryd.pinned (OpenSpec.upto streamCleansSpec)

/-- 'heraldlaw14.StreamMarks', WHERE WHAT IT READS IS OF BULK AT MOST 1048576: true; the input reads as it did. -/
def streamMarksUptoRow : OpenClaim := { program := "ytpnhfkmgnkdleaadoor", sum := "51b76aa82f8f0523b670ebe186181bcfe4f73c58011e85f958357ecc66b93827", func := "herald/heraldlaw14.StreamMarks", spec := "streamMarks", inPlace := ["internal/abi.NoEscape", "internal/bytealg.MakeNoZero"], named := ["unicode/utf8.first", "unicode/utf8.acceptRanges"], apart := false, laid := [("unicode/utf8.acceptRanges", laid_unicode_utf8_acceptRanges), ("unicode/utf8.first", laid_unicode_utf8_first)], narrowed := true }
def StreamMarksUptoSaid : Prop := streamMarksUptoRow.holds Tryd.pinned (OpenSpec.upto streamMarksSpec)

/-- 'heraldlaw14.StreamStops', WHERE WHAT IT READS IS OF BULK AT MOST 1048576: true; the input reads as it did. -/
def streamStopsUptoRow : OpenClaim := { program := "ytpnhfkmgnkdleaadoor", sum := "51b76aa82f8f0523b670ebe186181bcfe4f73c58011e85f958357ecc66b93827", func := "herald/heraldlaw14.StreamStops", spec := "streamStops", inPlace := ["internal/abi.NoEscape", "internal/bytealg.IndexByteString", "internal/bytealg.IndexString"], named := ["unicode/utf8.first", "unicode/utf8.acceptRanges", "internal/bytealg.MaxLen"], apart := false, laid := [("unicode/utf8.acceptRanges", laid_unicode_utf8_acceptRanges), ("unicode/utf8.first", laid_unicode_utf8_first)], narrowed := true }
def StreamStopsUptoSaid : Prop := streamStopsUptoRow.holds Tryd.pinned (OpenSpec.upto streamStopsSpec)

/-- 'heraldlaw14.StreamUnquotes', WHERE WHAT IT READS IS OF BULK AT MOST 1048576: true; the input reads as it did. -/
def streamUnquotesUptoRow : OpenClaim := { program := "ytpnhfkmgnkdleaadoor", sum := "51b76aa82f8f0523b670ebe186181bcfe4f73c58011e85f958357ecc66b93827", func := "herald/heraldlaw14.StreamUnquotes", spec := "streamUnquotes", inPlace := ["internal/abi.NoEscape", "internal/bytealg.IndexByteString"], named := ["unicode/utf8.first", "unicode/utf8.acceptRanges"], apart := false, laid := [("unicode/utf8.acceptRanges", laid_unicode_utf8_acceptRanges), ("unicode/utf8.first", laid_unicode_utf8_first)], narrowed := true }
def StreamUnquotesUptoSaid : Prop := streamUnquotesUptoRow.holds Tryd.pinned (OpenSpec.upto streamUnquotesSpec)

/-- 'heraldlaw14.StreamQuotes', WHERE WHAT IT READS IS OF BULK AT MOST 1048576: true; the input reads as it did. -/
def streamQuotesUptoRow : OpenClaim := { program := "ytpnhfkmgnkdleaadoor", sum := "51b76aa82f8f0523b670ebe186181bcfe4f73c58011e85f958357ecc66b93827", func := "herald/heraldlaw14.StreamQuotes", spec := "streamQuotes", inPlace := ["internal/abi.NoEscape", "internal/bytealg.IndexByteString"], named := ["unicode/utf8.first", "unicode/utf8.acceptRanges"], apart := false, laid := [("unicode/utf8.acceptRanges", laid_unicode_utf8_acceptRanges), ("unicode/utf8.first", laid_unicode_utf8_first)], narrowed := true }
def StreamQuotesUptoSaid : Prop := streamQuotesUptoRow.holds Tryd.pinned (OpenSpec.upto streamQuotesSpec)

/-- 'heraldlaw14.StreamEvents', WHERE WHAT IT READS IS OF BULK AT MOST 1048576: true; the input reads as it did. -/
def streamEventsUptoRow : OpenClaim := { program := "ytpnhfkmgnkdleaadoor", sum := "51b76aa82f8f0523b670ebe186181bcfe4f73c58011e85f958357ecc66b93827", func := "herald/heraldlaw14.StreamEvents", spec := "streamEvents", inPlace := ["internal/abi.NoEscape", "internal/bytealg.IndexByteString", "internal/bytealg.IndexString", "internal/bytealg.CountString", "internal/bytealg.MakeNoZero"], named := ["unicode/utf8.first", "unicode/utf8.acceptRanges", "internal/bytealg.MaxLen"], apart := false, laid := [("unicode/utf8.acceptRanges", laid_unicode_utf8_acceptRanges), ("unicode/utf8.first", laid_unicode_utf8_first)], narrowed := true }
def StreamEventsUptoSaid : Prop := streamEventsUptoRow.holds Tryd.pinned (OpenSpec.upto streamEventsSpec)

/-- 'heraldlaw14.StreamReads', WHERE WHAT IT READS IS OF BULK AT MOST 1048576: true; the input reads as it did. -/
def streamReadsUptoRow : OpenClaim := { program := "ytpnhfkmgnkdleaadoor", sum := "51b76aa82f8f0523b670ebe186181bcfe4f73c58011e85f958357ecc66b93827", func := "herald/heraldlaw14.StreamReads", spec := "streamReads", inPlace := ["internal/abi.NoEscape", "internal/bytealg.IndexByteString", "internal/bytealg.IndexString", "internal/bytealg.CountString", "internal/bytealg.MakeNoZero"], named := ["unicode/utf8.first", "unicode/utf8.acceptRanges", "internal/bytealg.MaxLen"], apart := false, laid := [("unicode/utf8.acceptRanges", laid_unicode_utf8_acceptRanges), ("unicode/utf8.first", laid_unicode_utf8_first)], narrowed := true }
def StreamReadsUptoSaid : Prop := streamReadsUptoRow.holds Tryd.pinned (OpenSpec.upto streamReadsSpec)

end Rows
end Go.Proofs.YtpnhfkmgnkdleaaDoor
