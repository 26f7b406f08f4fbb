/-
  No cell of these rows narrows 'for every input' (looked for: loops, veiled, ifaces, maps, wideKeys, modest, calm, conditions, laid).
  DERIVED. THE GIVEN ROWS OF THIS SEAT. 9 by the template 'for every input the law returns true; each argument reads behind the call as it read before'; 0 by the template 'total and deterministic' (their statements: YtjdfdahdobikmaaTotals.lean).
  GIVEN WITH THE SEED: the statements are not yours to turn. If you find one false, say at which input.
  Laid BY PROGRAM, IN A SANDBOX (cutbox-rows.mjs): the forced cells as the released guide's own fill.sh prints them over the translation 982633abf34e8dd9… (all of the seat's roots in one cut). By AI agents, Wed Nov 11 2026. No macro, syntax, notation, axiom, sorry.
-/
import Derived.Test.YtjdfdahdobikmaaChecked
import GoSem.Claim
import GoSem.ClaimJoined
import GoSem.ClaimMapViews
import Derived.JoinedTies
import Derived.KernelRfl
namespace Go.Proofs.Ytjdfdahdobikmaa
/- THE CELL 'sum', in the pinned program and in every row, IS THE sha256 OF THE DUMP (.gsa) THAT YtjdfdahdobikmaaProg.lean LOADS. Nothing in Lean hashes anything: it is a label: what it is worth is what the hold of that sum in a sandbox is worth. -/
noncomputable def Try.pinned : Pinned := { name := "ytjdfdahdobikmaa", sum := "982633abf34e8dd973f0b9cca3332db9b20f96733975f9bd615ae450a4d6492e", checked := Try.checked }
namespace Rows
def none {H : Type} : Left H := { results := [], args := [] }

/-- 'heraldlaw13.VocabChecks': WHATEVER THE INPUT: true; the input reads as it did. -/
def vocabChecksSpec : ChangeSpec := { name := "vocabChecks", fn := fun _ => fun
  | [d] => { results := [.lit (.bool true)], args := [d] }
  | _ => none }
def vocabChecksRow : OpenClaim := { program := "ytjdfdahdobikmaa", sum := "982633abf34e8dd973f0b9cca3332db9b20f96733975f9bd615ae450a4d6492e", func := "herald/heraldlaw13.VocabChecks", spec := "vocabChecks", inPlace := ["slices.overlaps[int]", "internal/abi.NoEscape"], plainKeys := false, apart := false }
def VocabChecksSaid : Prop := vocabChecksRow.holds Try.pinned (OpenSpec.ofChange vocabChecksSpec)

/-- ITS FALSE NEIGHBOUR: 'it returns false'. Refute it at one input. -/
def vocabChecksWrong : ChangeSpec := { name := "vocabChecks", fn := fun _ => fun
  | [d] => { results := [.lit (.bool false)], args := [d] }
  | _ => none }
def VocabChecksWrongFalsely : Prop := vocabChecksRow.holds Try.pinned (OpenSpec.ofChange vocabChecksWrong)

/-- 'heraldlaw13.VocabEncodes': WHATEVER THE INPUT: true; the input reads as it did. -/
def vocabEncodesSpec : ChangeSpec := { name := "vocabEncodes", fn := fun _ => fun
  | [d1, d2] => { results := [.lit (.bool true)], args := [d1, d2] }
  | _ => none }
def vocabEncodesRow : OpenClaim := { program := "ytjdfdahdobikmaa", sum := "982633abf34e8dd973f0b9cca3332db9b20f96733975f9bd615ae450a4d6492e", func := "herald/heraldlaw13.VocabEncodes", spec := "vocabEncodes", inPlace := ["slices.overlaps[int]", "internal/abi.NoEscape"], plainKeys := false, apart := false }
def VocabEncodesSaid : Prop := vocabEncodesRow.holds Try.pinned (OpenSpec.ofChange vocabEncodesSpec)

/-- ITS FALSE NEIGHBOUR: 'it returns false'. Refute it at one input. -/
def vocabEncodesWrong : ChangeSpec := { name := "vocabEncodes", fn := fun _ => fun
  | [d1, d2] => { results := [.lit (.bool false)], args := [d1, d2] }
  | _ => none }
def VocabEncodesWrongFalsely : Prop := vocabEncodesRow.holds Try.pinned (OpenSpec.ofChange vocabEncodesWrong)

/-- 'heraldlaw13.VocabDecodes': WHATEVER THE INPUT: true; the input reads as it did. -/
def vocabDecodesSpec : ChangeSpec := { name := "vocabDecodes", fn := fun _ => fun
  | [d1, d2] => { results := [.lit (.bool true)], args := [d1, d2] }
  | _ => none }
def vocabDecodesRow : OpenClaim := { program := "ytjdfdahdobikmaa", sum := "982633abf34e8dd973f0b9cca3332db9b20f96733975f9bd615ae450a4d6492e", func := "herald/heraldlaw13.VocabDecodes", spec := "vocabDecodes", inPlace := ["internal/abi.NoEscape", "slices.overlaps[int]"], plainKeys := false, apart := false }
def VocabDecodesSaid : Prop := vocabDecodesRow.holds Try.pinned (OpenSpec.ofChange vocabDecodesSpec)

/-- ITS FALSE NEIGHBOUR: 'it returns false'. Refute it at one input. -/
def vocabDecodesWrong : ChangeSpec := { name := "vocabDecodes", fn := fun _ => fun
  | [d1, d2] => { results := [.lit (.bool false)], args := [d1, d2] }
  | _ => none }
def VocabDecodesWrongFalsely : Prop := vocabDecodesRow.holds Try.pinned (OpenSpec.ofChange vocabDecodesWrong)

/-- 'heraldlaw13.VocabBack': WHATEVER THE INPUT: true; the input reads as it did. -/
def vocabBackSpec : ChangeSpec := { name := "vocabBack", fn := fun _ => fun
  | [d1, d2] => { results := [.lit (.bool true)], args := [d1, d2] }
  | _ => none }
def vocabBackRow : OpenClaim := { program := "ytjdfdahdobikmaa", sum := "982633abf34e8dd973f0b9cca3332db9b20f96733975f9bd615ae450a4d6492e", func := "herald/heraldlaw13.VocabBack", spec := "vocabBack", inPlace := ["slices.overlaps[int]", "internal/abi.NoEscape"], plainKeys := false, apart := false }
def VocabBackSaid : Prop := vocabBackRow.holds Try.pinned (OpenSpec.ofChange vocabBackSpec)

/-- ITS FALSE NEIGHBOUR: 'it returns false'. Refute it at one input. -/
def vocabBackWrong : ChangeSpec := { name := "vocabBack", fn := fun _ => fun
  | [d1, d2] => { results := [.lit (.bool false)], args := [d1, d2] }
  | _ => none }
def VocabBackWrongFalsely : Prop := vocabBackRow.holds Try.pinned (OpenSpec.ofChange vocabBackWrong)

/-- 'heraldlaw13.VocabJoins': WHATEVER THE INPUT: true; the input reads as it did. -/
def vocabJoinsSpec : ChangeSpec := { name := "vocabJoins", fn := fun _ => fun
  | [d1, d2, d3] => { results := [.lit (.bool true)], args := [d1, d2, d3] }
  | _ => none }
def vocabJoinsRow : OpenClaim := { program := "ytjdfdahdobikmaa", sum := "982633abf34e8dd973f0b9cca3332db9b20f96733975f9bd615ae450a4d6492e", func := "herald/heraldlaw13.VocabJoins", spec := "vocabJoins", inPlace := ["internal/abi.NoEscape", "slices.overlaps[int]"], plainKeys := false, apart := false }
def VocabJoinsSaid : Prop := vocabJoinsRow.holds Try.pinned (OpenSpec.ofChange vocabJoinsSpec)

/-- ITS FALSE NEIGHBOUR: 'it returns false'. Refute it at one input. -/
def vocabJoinsWrong : ChangeSpec := { name := "vocabJoins", fn := fun _ => fun
  | [d1, d2, d3] => { results := [.lit (.bool false)], args := [d1, d2, d3] }
  | _ => none }
def VocabJoinsWrongFalsely : Prop := vocabJoinsRow.holds Try.pinned (OpenSpec.ofChange vocabJoinsWrong)

/-- 'heraldlaw13.VocabMemory': WHATEVER THE INPUT: true; the input reads as it did. -/
def vocabMemorySpec : ChangeSpec := { name := "vocabMemory", fn := fun _ => fun
  | [d1, d2] => { results := [.lit (.bool true)], args := [d1, d2] }
  | _ => none }
def vocabMemoryRow : OpenClaim := { program := "ytjdfdahdobikmaa", sum := "982633abf34e8dd973f0b9cca3332db9b20f96733975f9bd615ae450a4d6492e", func := "herald/heraldlaw13.VocabMemory", spec := "vocabMemory", inPlace := ["slices.overlaps[int]", "internal/abi.NoEscape"], plainKeys := false, apart := false }
def VocabMemorySaid : Prop := vocabMemoryRow.holds Try.pinned (OpenSpec.ofChange vocabMemorySpec)

/-- ITS FALSE NEIGHBOUR: 'it returns false'. Refute it at one input. -/
def vocabMemoryWrong : ChangeSpec := { name := "vocabMemory", fn := fun _ => fun
  | [d1, d2] => { results := [.lit (.bool false)], args := [d1, d2] }
  | _ => none }
def VocabMemoryWrongFalsely : Prop := vocabMemoryRow.holds Try.pinned (OpenSpec.ofChange vocabMemoryWrong)

/-- 'heraldlaw13.VocabSame': WHATEVER THE INPUT: true; the input reads as it did. -/
def vocabSameSpec : ChangeSpec := { name := "vocabSame", fn := fun _ => fun
  | [d1, d2] => { results := [.lit (.bool true)], args := [d1, d2] }
  | _ => none }
def vocabSameRow : OpenClaim := { program := "ytjdfdahdobikmaa", sum := "982633abf34e8dd973f0b9cca3332db9b20f96733975f9bd615ae450a4d6492e", func := "herald/heraldlaw13.VocabSame", spec := "vocabSame", inPlace := ["slices.overlaps[int]", "internal/abi.NoEscape"], plainKeys := false, apart := false }
def VocabSameSaid : Prop := vocabSameRow.holds Try.pinned (OpenSpec.ofChange vocabSameSpec)

/-- ITS FALSE NEIGHBOUR: 'it returns false'. Refute it at one input. -/
def vocabSameWrong : ChangeSpec := { name := "vocabSame", fn := fun _ => fun
  | [d1, d2] => { results := [.lit (.bool false)], args := [d1, d2] }
  | _ => none }
def VocabSameWrongFalsely : Prop := vocabSameRow.holds Try.pinned (OpenSpec.ofChange vocabSameWrong)

/-- 'heraldlaw13.VocabUses': WHATEVER THE INPUT: true; the input reads as it did. -/
def vocabUsesSpec : ChangeSpec := { name := "vocabUses", fn := fun _ => fun
  | [d1, d2] => { results := [.lit (.bool true)], args := [d1, d2] }
  | _ => none }
def vocabUsesRow : OpenClaim := { program := "ytjdfdahdobikmaa", sum := "982633abf34e8dd973f0b9cca3332db9b20f96733975f9bd615ae450a4d6492e", func := "herald/heraldlaw13.VocabUses", spec := "vocabUses", inPlace := ["slices.overlaps[int]", "internal/abi.NoEscape"], plainKeys := false, apart := false }
def VocabUsesSaid : Prop := vocabUsesRow.holds Try.pinned (OpenSpec.ofChange vocabUsesSpec)

/-- ITS FALSE NEIGHBOUR: 'it returns false'. Refute it at one input. -/
def vocabUsesWrong : ChangeSpec := { name := "vocabUses", fn := fun _ => fun
  | [d1, d2] => { results := [.lit (.bool false)], args := [d1, d2] }
  | _ => none }
def VocabUsesWrongFalsely : Prop := vocabUsesRow.holds Try.pinned (OpenSpec.ofChange vocabUsesWrong)

/-- 'heraldlaw13.VocabCuts': WHATEVER THE INPUT: true; the input reads as it did. -/
def vocabCutsSpec : ChangeSpec := { name := "vocabCuts", fn := fun _ => fun
  | [d1, d2] => { results := [.lit (.bool true)], args := [d1, d2] }
  | _ => none }
def vocabCutsRow : OpenClaim := { program := "ytjdfdahdobikmaa", sum := "982633abf34e8dd973f0b9cca3332db9b20f96733975f9bd615ae450a4d6492e", func := "herald/heraldlaw13.VocabCuts", spec := "vocabCuts", inPlace := ["slices.overlaps[int]", "internal/abi.NoEscape"], plainKeys := false, apart := false }
def VocabCutsSaid : Prop := vocabCutsRow.holds Try.pinned (OpenSpec.ofChange vocabCutsSpec)

/-- ITS FALSE NEIGHBOUR: 'it returns false'. Refute it at one input. -/
def vocabCutsWrong : ChangeSpec := { name := "vocabCuts", fn := fun _ => fun
  | [d1, d2] => { results := [.lit (.bool false)], args := [d1, d2] }
  | _ => none }
def VocabCutsWrongFalsely : Prop := vocabCutsRow.holds Try.pinned (OpenSpec.ofChange vocabCutsWrong)

/- THE SECOND FORM. 'bulk': how many values and letters a reading holds, each counted each time it is reached (what is shared counts as often as it is met; a slice's spare places count too). A statement '..UptoSaid' is the law's where the arguments, and the package variables that the reading takes, are together of bulk at most 1048576: NARROWER than '..Said'. Prove '..Said' where nothing that the law and all that it calls make is longer than what came in: it says more and counts as full. Else prove '..UptoSaid'. A law counts once. -/
mutual
def uptoBulk {H : Type} : DataW H → Nat
  | .lit (.string bytes) => bytes.length + 1
  | .lit _ => 1
  | .nil => 1
  | .ptr d => uptoBulk d + 1
  | .slice elems spare => uptoBulkAll elems + uptoBulkAll spare + 1
  | .agg parts => uptoBulkAll parts + 1
  | .iface _ d => uptoBulk d + 1
  | .map entries => uptoBulkEntries entries + 1
  | .held _ => 1
def uptoBulkAll {H : Type} : List (DataW H) → Nat
  | [] => 0
  | d :: r => uptoBulk d + uptoBulkAll r
def uptoBulkEntries {H : Type} : List (Lit × DataW H) → Nat
  | [] => 0
  | x :: r => uptoBulkEntry x + uptoBulkEntries r
def uptoBulkEntry {H : Type} : Lit × DataW H → Nat
  | (.string bytes, d) => bytes.length + uptoBulk d + 1
  | (_, d) => uptoBulk d + 1
 end
def uptoSmall : (H : Type) → List (DataW H) → Bool := fun _ ds => decide (uptoBulkAll ds ≤ 1048576)
def OpenSpec.upto (s : _root_.Go.ChangeSpec) : _root_.Go.OpenSpec := { _root_.Go.OpenSpec.ofChange s with cond := some uptoSmall }

/-- 'heraldlaw13.VocabChecks', WHERE WHAT IT READS IS OF BULK AT MOST 1048576: true; the input reads as it did. -/
def vocabChecksUptoRow : OpenClaim := { program := "ytjdfdahdobikmaa", sum := "982633abf34e8dd973f0b9cca3332db9b20f96733975f9bd615ae450a4d6492e", func := "herald/heraldlaw13.VocabChecks", spec := "vocabChecks", inPlace := ["slices.overlaps[int]", "internal/abi.NoEscape"], plainKeys := false, apart := false, narrowed := true }
def VocabChecksUptoSaid : Prop := vocabChecksUptoRow.holds Try.pinned (OpenSpec.upto vocabChecksSpec)

/-- 'heraldlaw13.VocabEncodes', WHERE WHAT IT READS IS OF BULK AT MOST 1048576: true; the input reads as it did. -/
def vocabEncodesUptoRow : OpenClaim := { program := "ytjdfdahdobikmaa", sum := "982633abf34e8dd973f0b9cca3332db9b20f96733975f9bd615ae450a4d6492e", func := "herald/heraldlaw13.VocabEncodes", spec := "vocabEncodes", inPlace := ["slices.overlaps[int]", "internal/abi.NoEscape"], plainKeys := false, apart := false, narrowed := true }
def VocabEncodesUptoSaid : Prop := vocabEncodesUptoRow.holds Try.pinned (OpenSpec.upto vocabEncodesSpec)

/-- 'heraldlaw13.VocabDecodes', WHERE WHAT IT READS IS OF BULK AT MOST 1048576: true; the input reads as it did. -/
def vocabDecodesUptoRow : OpenClaim := { program := "ytjdfdahdobikmaa", sum := "982633abf34e8dd973f0b9cca3332db9b20f96733975f9bd615ae450a4d6492e", func := "herald/heraldlaw13.VocabDecodes", spec := "vocabDecodes", inPlace := ["internal/abi.NoEscape", "slices.overlaps[int]"], plainKeys := false, apart := false, narrowed := true }
def VocabDecodesUptoSaid : Prop := vocabDecodesUptoRow.holds Try.pinned (OpenSpec.upto vocabDecodesSpec)

/-- 'heraldlaw13.VocabBack', WHERE WHAT IT READS IS OF BULK AT MOST 1048576: true; the input reads as it did. -/
def vocabBackUptoRow : OpenClaim := { program := "ytjdfdahdobikmaa", sum := "982633abf34e8dd973f0b9cca3332db9b20f96733975f9bd615ae450a4d6492e", func := "herald/heraldlaw13.VocabBack", spec := "vocabBack", inPlace := ["slices.overlaps[int]", "internal/abi.NoEscape"], plainKeys := false, apart := false, narrowed := true }
def VocabBackUptoSaid : Prop := vocabBackUptoRow.holds Try.pinned (OpenSpec.upto vocabBackSpec)

/-- 'heraldlaw13.VocabJoins', WHERE WHAT IT READS IS OF BULK AT MOST 1048576: true; the input reads as it did. -/
def vocabJoinsUptoRow : OpenClaim := { program := "ytjdfdahdobikmaa", sum := "982633abf34e8dd973f0b9cca3332db9b20f96733975f9bd615ae450a4d6492e", func := "herald/heraldlaw13.VocabJoins", spec := "vocabJoins", inPlace := ["internal/abi.NoEscape", "slices.overlaps[int]"], plainKeys := false, apart := false, narrowed := true }
def VocabJoinsUptoSaid : Prop := vocabJoinsUptoRow.holds Try.pinned (OpenSpec.upto vocabJoinsSpec)

/-- 'heraldlaw13.VocabMemory', WHERE WHAT IT READS IS OF BULK AT MOST 1048576: true; the input reads as it did. -/
def vocabMemoryUptoRow : OpenClaim := { program := "ytjdfdahdobikmaa", sum := "982633abf34e8dd973f0b9cca3332db9b20f96733975f9bd615ae450a4d6492e", func := "herald/heraldlaw13.VocabMemory", spec := "vocabMemory", inPlace := ["slices.overlaps[int]", "internal/abi.NoEscape"], plainKeys := false, apart := false, narrowed := true }
def VocabMemoryUptoSaid : Prop := vocabMemoryUptoRow.holds Try.pinned (OpenSpec.upto vocabMemorySpec)

/-- 'heraldlaw13.VocabSame', WHERE WHAT IT READS IS OF BULK AT MOST 1048576: true; the input reads as it did. -/
def vocabSameUptoRow : OpenClaim := { program := "ytjdfdahdobikmaa", sum := "982633abf34e8dd973f0b9cca3332db9b20f96733975f9bd615ae450a4d6492e", func := "herald/heraldlaw13.VocabSame", spec := "vocabSame", inPlace := ["slices.overlaps[int]", "internal/abi.NoEscape"], plainKeys := false, apart := false, narrowed := true }
def VocabSameUptoSaid : Prop := vocabSameUptoRow.holds Try.pinned (OpenSpec.upto vocabSameSpec)

/-- 'heraldlaw13.VocabUses', WHERE WHAT IT READS IS OF BULK AT MOST 1048576: true; the input reads as it did. -/
def vocabUsesUptoRow : OpenClaim := { program := "ytjdfdahdobikmaa", sum := "982633abf34e8dd973f0b9cca3332db9b20f96733975f9bd615ae450a4d6492e", func := "herald/heraldlaw13.VocabUses", spec := "vocabUses", inPlace := ["slices.overlaps[int]", "internal/abi.NoEscape"], plainKeys := false, apart := false, narrowed := true }
def VocabUsesUptoSaid : Prop := vocabUsesUptoRow.holds Try.pinned (OpenSpec.upto vocabUsesSpec)

/-- 'heraldlaw13.VocabCuts', WHERE WHAT IT READS IS OF BULK AT MOST 1048576: true; the input reads as it did. -/
def vocabCutsUptoRow : OpenClaim := { program := "ytjdfdahdobikmaa", sum := "982633abf34e8dd973f0b9cca3332db9b20f96733975f9bd615ae450a4d6492e", func := "herald/heraldlaw13.VocabCuts", spec := "vocabCuts", inPlace := ["slices.overlaps[int]", "internal/abi.NoEscape"], plainKeys := false, apart := false, narrowed := true }
def VocabCutsUptoSaid : Prop := vocabCutsUptoRow.holds Try.pinned (OpenSpec.upto vocabCutsSpec)

end Rows
end Go.Proofs.Ytjdfdahdobikmaa
