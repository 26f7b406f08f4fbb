/-
  No cell of these rows narrows 'for every input' (looked for: loops, veiled, ifaces, maps, wideKeys, modest, calm, conditions, laid).
  DERIVED. THE GIVEN ROWS OF THIS SEAT. 8 by the template 'for every input the law returns true; each argument reads behind the call as it read before'; 0 by the template 'total and deterministic' (their statements: YtdelgnflcfhhkaaTotals.lean).
  GIVEN WITH THE SEED: the statements are not yours to turn. If you find one false, say at which input.
  Laid BY PROGRAM, IN A SANDBOX (cutbox-rows.mjs): the forced cells as the released guide's own fill.sh prints them over the translation c2ccb82878265f51… (all of the seat's roots in one cut). By AI agents, Wed Nov 11 2026. No macro, syntax, notation, axiom, sorry.
-/
import Derived.Test.YtdelgnflcfhhkaaChecked
import GoSem.Claim
import GoSem.ClaimJoined
import GoSem.ClaimMapViews
import Derived.JoinedTies
import Derived.KernelRfl
namespace Go.Proofs.Ytdelgnflcfhhkaa
/- THE CELL 'sum', in the pinned program and in every row, IS THE sha256 OF THE DUMP (.gsa) THAT YtdelgnflcfhhkaaProg.lean LOADS. Nothing in Lean hashes anything: it is a label: what it is worth is what the hold of that sum in a sandbox is worth. -/
noncomputable def Try.pinned : Pinned := { name := "ytdelgnflcfhhkaa", sum := "c2ccb82878265f51178744f3123a591a075897a42b414f8155dc8ce8ac833fef", checked := Try.checked }
namespace Rows
def none {H : Type} : Left H := { results := [], args := [] }

/-- 'heraldlaw17.FileReads': WHATEVER THE INPUT: true; the input reads as it did. -/
def fileReadsSpec : ChangeSpec := { name := "fileReads", fn := fun _ => fun
  | [d] => { results := [.lit (.bool true)], args := [d] }
  | _ => none }
def fileReadsRow : OpenClaim := { program := "ytdelgnflcfhhkaa", sum := "c2ccb82878265f51178744f3123a591a075897a42b414f8155dc8ce8ac833fef", func := "herald/heraldlaw17.FileReads", spec := "fileReads", unfollowed := true, recurses := true, plainKeys := false, apart := false }
def FileReadsSaid : Prop := fileReadsRow.holds Try.pinned (OpenSpec.ofChange fileReadsSpec)

/-- ITS FALSE NEIGHBOUR: 'it returns false'. Refute it at one input. -/
def fileReadsWrong : ChangeSpec := { name := "fileReads", fn := fun _ => fun
  | [d] => { results := [.lit (.bool false)], args := [d] }
  | _ => none }
def FileReadsWrongFalsely : Prop := fileReadsRow.holds Try.pinned (OpenSpec.ofChange fileReadsWrong)

/-- 'heraldlaw17.FileSealed': WHATEVER THE INPUT: true; the input reads as it did. -/
def fileSealedSpec : ChangeSpec := { name := "fileSealed", fn := fun _ => fun
  | [d] => { results := [.lit (.bool true)], args := [d] }
  | _ => none }
def fileSealedRow : OpenClaim := { program := "ytdelgnflcfhhkaa", sum := "c2ccb82878265f51178744f3123a591a075897a42b414f8155dc8ce8ac833fef", func := "herald/heraldlaw17.FileSealed", spec := "fileSealed", unfollowed := true, recurses := true, plainKeys := false, apart := false }
def FileSealedSaid : Prop := fileSealedRow.holds Try.pinned (OpenSpec.ofChange fileSealedSpec)

/-- ITS FALSE NEIGHBOUR: 'it returns false'. Refute it at one input. -/
def fileSealedWrong : ChangeSpec := { name := "fileSealed", fn := fun _ => fun
  | [d] => { results := [.lit (.bool false)], args := [d] }
  | _ => none }
def FileSealedWrongFalsely : Prop := fileSealedRow.holds Try.pinned (OpenSpec.ofChange fileSealedWrong)

/-- 'heraldlaw17.FileAgain': WHATEVER THE INPUT: true; the input reads as it did. -/
def fileAgainSpec : ChangeSpec := { name := "fileAgain", fn := fun _ => fun
  | [d] => { results := [.lit (.bool true)], args := [d] }
  | _ => none }
def fileAgainRow : OpenClaim := { program := "ytdelgnflcfhhkaa", sum := "c2ccb82878265f51178744f3123a591a075897a42b414f8155dc8ce8ac833fef", func := "herald/heraldlaw17.FileAgain", spec := "fileAgain", unfollowed := true, recurses := true, plainKeys := false, apart := false }
def FileAgainSaid : Prop := fileAgainRow.holds Try.pinned (OpenSpec.ofChange fileAgainSpec)

/-- ITS FALSE NEIGHBOUR: 'it returns false'. Refute it at one input. -/
def fileAgainWrong : ChangeSpec := { name := "fileAgain", fn := fun _ => fun
  | [d] => { results := [.lit (.bool false)], args := [d] }
  | _ => none }
def FileAgainWrongFalsely : Prop := fileAgainRow.holds Try.pinned (OpenSpec.ofChange fileAgainWrong)

/-- 'heraldlaw17.FileTells': WHATEVER THE INPUT: true; the input reads as it did. -/
def fileTellsSpec : ChangeSpec := { name := "fileTells", fn := fun _ => fun
  | [d1, d2, d3] => { results := [.lit (.bool true)], args := [d1, d2, d3] }
  | _ => none }
def fileTellsRow : OpenClaim := { program := "ytdelgnflcfhhkaa", sum := "c2ccb82878265f51178744f3123a591a075897a42b414f8155dc8ce8ac833fef", func := "herald/heraldlaw17.FileTells", spec := "fileTells", unfollowed := true, recurses := true, plainKeys := false, apart := false }
def FileTellsSaid : Prop := fileTellsRow.holds Try.pinned (OpenSpec.ofChange fileTellsSpec)

/-- ITS FALSE NEIGHBOUR: 'it returns false'. Refute it at one input. -/
def fileTellsWrong : ChangeSpec := { name := "fileTells", fn := fun _ => fun
  | [d1, d2, d3] => { results := [.lit (.bool false)], args := [d1, d2, d3] }
  | _ => none }
def FileTellsWrongFalsely : Prop := fileTellsRow.holds Try.pinned (OpenSpec.ofChange fileTellsWrong)

/-- 'heraldlaw17.FileMemory': WHATEVER THE INPUT: true; the input reads as it did. -/
def fileMemorySpec : ChangeSpec := { name := "fileMemory", fn := fun _ => fun
  | [d] => { results := [.lit (.bool true)], args := [d] }
  | _ => none }
def fileMemoryRow : OpenClaim := { program := "ytdelgnflcfhhkaa", sum := "c2ccb82878265f51178744f3123a591a075897a42b414f8155dc8ce8ac833fef", func := "herald/heraldlaw17.FileMemory", spec := "fileMemory", unfollowed := true, recurses := true, plainKeys := false, apart := false }
def FileMemorySaid : Prop := fileMemoryRow.holds Try.pinned (OpenSpec.ofChange fileMemorySpec)

/-- ITS FALSE NEIGHBOUR: 'it returns false'. Refute it at one input. -/
def fileMemoryWrong : ChangeSpec := { name := "fileMemory", fn := fun _ => fun
  | [d] => { results := [.lit (.bool false)], args := [d] }
  | _ => none }
def FileMemoryWrongFalsely : Prop := fileMemoryRow.holds Try.pinned (OpenSpec.ofChange fileMemoryWrong)

/-- 'heraldlaw17.FileWrites': WHATEVER THE INPUT: true; the input reads as it did. -/
def fileWritesSpec : ChangeSpec := { name := "fileWrites", fn := fun _ => fun
  | [d] => { results := [.lit (.bool true)], args := [d] }
  | _ => none }
def fileWritesRow : OpenClaim := { program := "ytdelgnflcfhhkaa", sum := "c2ccb82878265f51178744f3123a591a075897a42b414f8155dc8ce8ac833fef", func := "herald/heraldlaw17.FileWrites", spec := "fileWrites", unfollowed := true, recurses := true, plainKeys := false, apart := false }
def FileWritesSaid : Prop := fileWritesRow.holds Try.pinned (OpenSpec.ofChange fileWritesSpec)

/-- ITS FALSE NEIGHBOUR: 'it returns false'. Refute it at one input. -/
def fileWritesWrong : ChangeSpec := { name := "fileWrites", fn := fun _ => fun
  | [d] => { results := [.lit (.bool false)], args := [d] }
  | _ => none }
def FileWritesWrongFalsely : Prop := fileWritesRow.holds Try.pinned (OpenSpec.ofChange fileWritesWrong)

/-- 'heraldlaw17.FileBack': WHATEVER THE INPUT: true; the input reads as it did. -/
def fileBackSpec : ChangeSpec := { name := "fileBack", fn := fun _ => fun
  | [d] => { results := [.lit (.bool true)], args := [d] }
  | _ => none }
def fileBackRow : OpenClaim := { program := "ytdelgnflcfhhkaa", sum := "c2ccb82878265f51178744f3123a591a075897a42b414f8155dc8ce8ac833fef", func := "herald/heraldlaw17.FileBack", spec := "fileBack", unfollowed := true, recurses := true, plainKeys := false, apart := false }
def FileBackSaid : Prop := fileBackRow.holds Try.pinned (OpenSpec.ofChange fileBackSpec)

/-- ITS FALSE NEIGHBOUR: 'it returns false'. Refute it at one input. -/
def fileBackWrong : ChangeSpec := { name := "fileBack", fn := fun _ => fun
  | [d] => { results := [.lit (.bool false)], args := [d] }
  | _ => none }
def FileBackWrongFalsely : Prop := fileBackRow.holds Try.pinned (OpenSpec.ofChange fileBackWrong)

/-- 'heraldlaw17.FileMerges': WHATEVER THE INPUT: true; the input reads as it did. -/
def fileMergesSpec : ChangeSpec := { name := "fileMerges", fn := fun _ => fun
  | [d1, d2] => { results := [.lit (.bool true)], args := [d1, d2] }
  | _ => none }
def fileMergesRow : OpenClaim := { program := "ytdelgnflcfhhkaa", sum := "c2ccb82878265f51178744f3123a591a075897a42b414f8155dc8ce8ac833fef", func := "herald/heraldlaw17.FileMerges", spec := "fileMerges", unfollowed := true, recurses := true, plainKeys := false, apart := false }
def FileMergesSaid : Prop := fileMergesRow.holds Try.pinned (OpenSpec.ofChange fileMergesSpec)

/-- ITS FALSE NEIGHBOUR: 'it returns false'. Refute it at one input. -/
def fileMergesWrong : ChangeSpec := { name := "fileMerges", fn := fun _ => fun
  | [d1, d2] => { results := [.lit (.bool false)], args := [d1, d2] }
  | _ => none }
def FileMergesWrongFalsely : Prop := fileMergesRow.holds Try.pinned (OpenSpec.ofChange fileMergesWrong)

/- THE SECOND FORM. 'bulk': how many values and letters a reading holds, each counted each time it is reached (what is shared counts as often as it is met; a slice's spare places count too). A statement '..UptoSaid' is the law's where the arguments, and the package variables that the reading takes, are together of bulk at most 1048576: NARROWER than '..Said'. Prove '..Said' where nothing that the law and all that it calls make is longer than what came in: it says more and counts as full. Else prove '..UptoSaid'. A law counts once. -/
mutual
def uptoBulk {H : Type} : DataW H → Nat
  | .lit (.string bytes) => bytes.length + 1
  | .lit _ => 1
  | .nil => 1
  | .ptr d => uptoBulk d + 1
  | .slice elems spare => uptoBulkAll elems + uptoBulkAll spare + 1
  | .agg parts => uptoBulkAll parts + 1
  | .iface _ d => uptoBulk d + 1
  | .map entries => uptoBulkEntries entries + 1
  | .held _ => 1
def uptoBulkAll {H : Type} : List (DataW H) → Nat
  | [] => 0
  | d :: r => uptoBulk d + uptoBulkAll r
def uptoBulkEntries {H : Type} : List (Lit × DataW H) → Nat
  | [] => 0
  | x :: r => uptoBulkEntry x + uptoBulkEntries r
def uptoBulkEntry {H : Type} : Lit × DataW H → Nat
  | (.string bytes, d) => bytes.length + uptoBulk d + 1
  | (_, d) => uptoBulk d + 1
 end
def uptoSmall : (H : Type) → List (DataW H) → Bool := fun _ ds => decide (uptoBulkAll ds ≤ 1048576)
def OpenSpec.upto (s : _root_.Go.ChangeSpec) : _root_.Go.OpenSpec := { _root_.Go.OpenSpec.ofChange s with cond := some uptoSmall }

/-- 'heraldlaw17.FileReads', WHERE WHAT IT READS IS OF BULK AT MOST 1048576: true; the input reads as it did. -/
def fileReadsUptoRow : OpenClaim := { program := "ytdelgnflcfhhkaa", sum := "c2ccb82878265f51178744f3123a591a075897a42b414f8155dc8ce8ac833fef", func := "herald/heraldlaw17.FileReads", spec := "fileReads", unfollowed := true, recurses := true, plainKeys := false, apart := false, narrowed := true }
def FileReadsUptoSaid : Prop := fileReadsUptoRow.holds Try.pinned (OpenSpec.upto fileReadsSpec)

/-- 'heraldlaw17.FileSealed', WHERE WHAT IT READS IS OF BULK AT MOST 1048576: true; the input reads as it did. -/
def fileSealedUptoRow : OpenClaim := { program := "ytdelgnflcfhhkaa", sum := "c2ccb82878265f51178744f3123a591a075897a42b414f8155dc8ce8ac833fef", func := "herald/heraldlaw17.FileSealed", spec := "fileSealed", unfollowed := true, recurses := true, plainKeys := false, apart := false, narrowed := true }
def FileSealedUptoSaid : Prop := fileSealedUptoRow.holds Try.pinned (OpenSpec.upto fileSealedSpec)

/-- 'heraldlaw17.FileAgain', WHERE WHAT IT READS IS OF BULK AT MOST 1048576: true; the input reads as it did. -/
def fileAgainUptoRow : OpenClaim := { program := "ytdelgnflcfhhkaa", sum := "c2ccb82878265f51178744f3123a591a075897a42b414f8155dc8ce8ac833fef", func := "herald/heraldlaw17.FileAgain", spec := "fileAgain", unfollowed := true, recurses := true, plainKeys := false, apart := false, narrowed := true }
def FileAgainUptoSaid : Prop := fileAgainUptoRow.holds Try.pinned (OpenSpec.upto fileAgainSpec)

/-- 'heraldlaw17.FileTells', WHERE WHAT IT READS IS OF BULK AT MOST 1048576: true; the input reads as it did. -/
def fileTellsUptoRow : OpenClaim := { program := "ytdelgnflcfhhkaa", sum := "c2ccb82878265f51178744f3123a591a075897a42b414f8155dc8ce8ac833fef", func := "herald/heraldlaw17.FileTells", spec := "fileTells", unfollowed := true, recurses := true, plainKeys := false, apart := false, narrowed := true }
def FileTellsUptoSaid : Prop := fileTellsUptoRow.holds Try.pinned (OpenSpec.upto fileTellsSpec)

/-- 'heraldlaw17.FileMemory', WHERE WHAT IT READS IS OF BULK AT MOST 1048576: true; the input reads as it did. -/
def fileMemoryUptoRow : OpenClaim := { program := "ytdelgnflcfhhkaa", sum := "c2ccb82878265f51178744f3123a591a075897a42b414f8155dc8ce8ac833fef", func := "herald/heraldlaw17.FileMemory", spec := "fileMemory", unfollowed := true, recurses := true, plainKeys := false, apart := false, narrowed := true }
def FileMemoryUptoSaid : Prop := fileMemoryUptoRow.holds Try.pinned (OpenSpec.upto fileMemorySpec)

/-- 'heraldlaw17.FileWrites', WHERE WHAT IT READS IS OF BULK AT MOST 1048576: true; the input reads as it did. -/
def fileWritesUptoRow : OpenClaim := { program := "ytdelgnflcfhhkaa", sum := "c2ccb82878265f51178744f3123a591a075897a42b414f8155dc8ce8ac833fef", func := "herald/heraldlaw17.FileWrites", spec := "fileWrites", unfollowed := true, recurses := true, plainKeys := false, apart := false, narrowed := true }
def FileWritesUptoSaid : Prop := fileWritesUptoRow.holds Try.pinned (OpenSpec.upto fileWritesSpec)

/-- 'heraldlaw17.FileBack', WHERE WHAT IT READS IS OF BULK AT MOST 1048576: true; the input reads as it did. -/
def fileBackUptoRow : OpenClaim := { program := "ytdelgnflcfhhkaa", sum := "c2ccb82878265f51178744f3123a591a075897a42b414f8155dc8ce8ac833fef", func := "herald/heraldlaw17.FileBack", spec := "fileBack", unfollowed := true, recurses := true, plainKeys := false, apart := false, narrowed := true }
def FileBackUptoSaid : Prop := fileBackUptoRow.holds Try.pinned (OpenSpec.upto fileBackSpec)

/-- 'heraldlaw17.FileMerges', WHERE WHAT IT READS IS OF BULK AT MOST 1048576: true; the input reads as it did. -/
def fileMergesUptoRow : OpenClaim := { program := "ytdelgnflcfhhkaa", sum := "c2ccb82878265f51178744f3123a591a075897a42b414f8155dc8ce8ac833fef", func := "herald/heraldlaw17.FileMerges", spec := "fileMerges", unfollowed := true, recurses := true, plainKeys := false, apart := false, narrowed := true }
def FileMergesUptoSaid : Prop := fileMergesUptoRow.holds Try.pinned (OpenSpec.upto fileMergesSpec)

end Rows
end Go.Proofs.Ytdelgnflcfhhkaa
