/-
  NARROWER THAN 'FOR EVERY INPUT', by the rows' own cells (each row's printed sentence says how): ShapeChecks: laid · ShapeSamples: laid · ShapeValid: laid · ShapeReaches: laid · ShapeCosts: laid · ShapeSame: laid · ShapeMakes: laid · ShapeCuts: laid.
  DERIVED. THE GIVEN ROWS OF THIS SEAT. 8 by the template 'for every input the law returns true; each argument reads behind the call as it read before'; 0 by the template 'total and deterministic' (their statements: YtfgllkflnkolhaaDoorTotals.lean).
  GIVEN WITH THE SEED: the statements are not yours to turn. If you find one false, say at which input.
  Laid BY PROGRAM, IN A SANDBOX (cutbox-rows.mjs): the forced cells as the released guide's own fill.sh prints them over the translation d25cf1df17a3f3bd… (all of the seat's roots in one cut). By AI agents, Wed Nov 11 2026. No macro, syntax, notation, axiom, sorry.
-/
import Derived.Test.YtfgllkflnkolhaaDoorChecked
import GoSem.Claim
import GoSem.ClaimJoined
import GoSem.ClaimMapViews
import Derived.JoinedTies
import Derived.KernelRfl
namespace Go.Proofs.YtfgllkflnkolhaaDoor
/- THE CELL 'sum', in the pinned program and in every row, IS THE sha256 OF THE DUMP (.gsa) THAT YtfgllkflnkolhaaDoorProg.lean LOADS. Nothing in Lean hashes anything: it is a label: what it is worth is what the hold of that sum in a sandbox is worth. -/
noncomputable def Tryd.pinned : Pinned := { name := "ytfgllkflnkolhaadoor", sum := "d25cf1df17a3f3bdb8788175e5f91747d3d5850da3b3fb354e803909376dd5b2", checked := Tryd.checked }
namespace Rows
def none {H : Type} : Left H := { results := [], args := [] }

/- WHAT THE LISTED PACKAGE-LEVEL VARIABLES READ AS WHEN THE CALL BEGINS. Each datum BY PROGRAM (the guide's laid-datum.mjs) off the statement by which the dump's own 'gosem.cut.vars' lays the variable. In a bare row this is a premise. The card (YtfgllkflnkolhaaDoorCards.lean) ties it to the program's text. -/
def laid_herald_rope_quarterSines {H : Type} : DataW H := .agg [.lit (.int .i8 0), .lit (.int .i8 2), .lit (.int .i8 3), .lit (.int .i8 5), .lit (.int .i8 6), .lit (.int .i8 8), .lit (.int .i8 9), .lit (.int .i8 11), .lit (.int .i8 12), .lit (.int .i8 14), .lit (.int .i8 16), .lit (.int .i8 17), .lit (.int .i8 19), .lit (.int .i8 20), .lit (.int .i8 22), .lit (.int .i8 23), .lit (.int .i8 24), .lit (.int .i8 26), .lit (.int .i8 27), .lit (.int .i8 29), .lit (.int .i8 30), .lit (.int .i8 32), .lit (.int .i8 33), .lit (.int .i8 34), .lit (.int .i8 36), .lit (.int .i8 37), .lit (.int .i8 38), .lit (.int .i8 39), .lit (.int .i8 41), .lit (.int .i8 42), .lit (.int .i8 43), .lit (.int .i8 44), .lit (.int .i8 45), .lit (.int .i8 46), .lit (.int .i8 47), .lit (.int .i8 48), .lit (.int .i8 49), .lit (.int .i8 50), .lit (.int .i8 51), .lit (.int .i8 52), .lit (.int .i8 53), .lit (.int .i8 54), .lit (.int .i8 55), .lit (.int .i8 56), .lit (.int .i8 56), .lit (.int .i8 57), .lit (.int .i8 58), .lit (.int .i8 59), .lit (.int .i8 59), .lit (.int .i8 60), .lit (.int .i8 60), .lit (.int .i8 61), .lit (.int .i8 61), .lit (.int .i8 62), .lit (.int .i8 62), .lit (.int .i8 62), .lit (.int .i8 63), .lit (.int .i8 63), .lit (.int .i8 63), .lit (.int .i8 64), .lit (.int .i8 64), .lit (.int .i8 64), .lit (.int .i8 64), .lit (.int .i8 64), .lit (.int .i8 64)]

/-- 'heraldlaw16.ShapeChecks': WHATEVER THE INPUT: true; the input reads as it did. -/
def shapeChecksSpec : ChangeSpec := { name := "shapeChecks", fn := fun _ => fun
  | [d] => { results := [.lit (.bool true)], args := [d] }
  | _ => none }
def shapeChecksRow : OpenClaim := { program := "ytfgllkflnkolhaadoor", sum := "d25cf1df17a3f3bdb8788175e5f91747d3d5850da3b3fb354e803909376dd5b2", func := "herald/heraldlaw16.ShapeChecks", spec := "shapeChecks", unfollowed := true, recurses := true, named := ["herald/rope.quarterSines"], plainKeys := false, apart := false, laid := [("herald/rope.quarterSines", laid_herald_rope_quarterSines)] }
def ShapeChecksSaid : Prop := shapeChecksRow.holds Tryd.pinned (OpenSpec.ofChange shapeChecksSpec)

/-- ITS FALSE NEIGHBOUR: 'it returns false'. Refute it at one input. -/
def shapeChecksWrong : ChangeSpec := { name := "shapeChecks", fn := fun _ => fun
  | [d] => { results := [.lit (.bool false)], args := [d] }
  | _ => none }
def ShapeChecksWrongFalsely : Prop := shapeChecksRow.holds Tryd.pinned (OpenSpec.ofChange shapeChecksWrong)

/-- 'heraldlaw16.ShapeSamples': WHATEVER THE INPUT: true; the input reads as it did. -/
def shapeSamplesSpec : ChangeSpec := { name := "shapeSamples", fn := fun _ => fun
  | [d1, d2] => { results := [.lit (.bool true)], args := [d1, d2] }
  | _ => none }
def shapeSamplesRow : OpenClaim := { program := "ytfgllkflnkolhaadoor", sum := "d25cf1df17a3f3bdb8788175e5f91747d3d5850da3b3fb354e803909376dd5b2", func := "herald/heraldlaw16.ShapeSamples", spec := "shapeSamples", unfollowed := true, recurses := true, named := ["herald/rope.quarterSines"], plainKeys := false, apart := false, laid := [("herald/rope.quarterSines", laid_herald_rope_quarterSines)] }
def ShapeSamplesSaid : Prop := shapeSamplesRow.holds Tryd.pinned (OpenSpec.ofChange shapeSamplesSpec)

/-- ITS FALSE NEIGHBOUR: 'it returns false'. Refute it at one input. -/
def shapeSamplesWrong : ChangeSpec := { name := "shapeSamples", fn := fun _ => fun
  | [d1, d2] => { results := [.lit (.bool false)], args := [d1, d2] }
  | _ => none }
def ShapeSamplesWrongFalsely : Prop := shapeSamplesRow.holds Tryd.pinned (OpenSpec.ofChange shapeSamplesWrong)

/-- 'heraldlaw16.ShapeValid': WHATEVER THE INPUT: true; the input reads as it did. -/
def shapeValidSpec : ChangeSpec := { name := "shapeValid", fn := fun _ => fun
  | [d] => { results := [.lit (.bool true)], args := [d] }
  | _ => none }
def shapeValidRow : OpenClaim := { program := "ytfgllkflnkolhaadoor", sum := "d25cf1df17a3f3bdb8788175e5f91747d3d5850da3b3fb354e803909376dd5b2", func := "herald/heraldlaw16.ShapeValid", spec := "shapeValid", unfollowed := true, recurses := true, named := ["herald/rope.quarterSines"], plainKeys := false, apart := false, laid := [("herald/rope.quarterSines", laid_herald_rope_quarterSines)] }
def ShapeValidSaid : Prop := shapeValidRow.holds Tryd.pinned (OpenSpec.ofChange shapeValidSpec)

/-- ITS FALSE NEIGHBOUR: 'it returns false'. Refute it at one input. -/
def shapeValidWrong : ChangeSpec := { name := "shapeValid", fn := fun _ => fun
  | [d] => { results := [.lit (.bool false)], args := [d] }
  | _ => none }
def ShapeValidWrongFalsely : Prop := shapeValidRow.holds Tryd.pinned (OpenSpec.ofChange shapeValidWrong)

/-- 'heraldlaw16.ShapeReaches': WHATEVER THE INPUT: true; the input reads as it did. -/
def shapeReachesSpec : ChangeSpec := { name := "shapeReaches", fn := fun _ => fun
  | [d1, d2, d3] => { results := [.lit (.bool true)], args := [d1, d2, d3] }
  | _ => none }
def shapeReachesRow : OpenClaim := { program := "ytfgllkflnkolhaadoor", sum := "d25cf1df17a3f3bdb8788175e5f91747d3d5850da3b3fb354e803909376dd5b2", func := "herald/heraldlaw16.ShapeReaches", spec := "shapeReaches", unfollowed := true, recurses := true, named := ["herald/rope.quarterSines"], plainKeys := false, apart := false, laid := [("herald/rope.quarterSines", laid_herald_rope_quarterSines)] }
def ShapeReachesSaid : Prop := shapeReachesRow.holds Tryd.pinned (OpenSpec.ofChange shapeReachesSpec)

/-- ITS FALSE NEIGHBOUR: 'it returns false'. Refute it at one input. -/
def shapeReachesWrong : ChangeSpec := { name := "shapeReaches", fn := fun _ => fun
  | [d1, d2, d3] => { results := [.lit (.bool false)], args := [d1, d2, d3] }
  | _ => none }
def ShapeReachesWrongFalsely : Prop := shapeReachesRow.holds Tryd.pinned (OpenSpec.ofChange shapeReachesWrong)

/-- 'heraldlaw16.ShapeCosts': WHATEVER THE INPUT: true; the input reads as it did. -/
def shapeCostsSpec : ChangeSpec := { name := "shapeCosts", fn := fun _ => fun
  | [d1, d2, d3] => { results := [.lit (.bool true)], args := [d1, d2, d3] }
  | _ => none }
def shapeCostsRow : OpenClaim := { program := "ytfgllkflnkolhaadoor", sum := "d25cf1df17a3f3bdb8788175e5f91747d3d5850da3b3fb354e803909376dd5b2", func := "herald/heraldlaw16.ShapeCosts", spec := "shapeCosts", unfollowed := true, recurses := true, named := ["herald/rope.quarterSines"], plainKeys := false, apart := false, laid := [("herald/rope.quarterSines", laid_herald_rope_quarterSines)] }
def ShapeCostsSaid : Prop := shapeCostsRow.holds Tryd.pinned (OpenSpec.ofChange shapeCostsSpec)

/-- ITS FALSE NEIGHBOUR: 'it returns false'. Refute it at one input. -/
def shapeCostsWrong : ChangeSpec := { name := "shapeCosts", fn := fun _ => fun
  | [d1, d2, d3] => { results := [.lit (.bool false)], args := [d1, d2, d3] }
  | _ => none }
def ShapeCostsWrongFalsely : Prop := shapeCostsRow.holds Tryd.pinned (OpenSpec.ofChange shapeCostsWrong)

/-- 'heraldlaw16.ShapeSame': WHATEVER THE INPUT: true; the input reads as it did. -/
def shapeSameSpec : ChangeSpec := { name := "shapeSame", fn := fun _ => fun
  | [d1, d2] => { results := [.lit (.bool true)], args := [d1, d2] }
  | _ => none }
def shapeSameRow : OpenClaim := { program := "ytfgllkflnkolhaadoor", sum := "d25cf1df17a3f3bdb8788175e5f91747d3d5850da3b3fb354e803909376dd5b2", func := "herald/heraldlaw16.ShapeSame", spec := "shapeSame", unfollowed := true, recurses := true, named := ["herald/rope.quarterSines"], plainKeys := false, apart := false, laid := [("herald/rope.quarterSines", laid_herald_rope_quarterSines)] }
def ShapeSameSaid : Prop := shapeSameRow.holds Tryd.pinned (OpenSpec.ofChange shapeSameSpec)

/-- ITS FALSE NEIGHBOUR: 'it returns false'. Refute it at one input. -/
def shapeSameWrong : ChangeSpec := { name := "shapeSame", fn := fun _ => fun
  | [d1, d2] => { results := [.lit (.bool false)], args := [d1, d2] }
  | _ => none }
def ShapeSameWrongFalsely : Prop := shapeSameRow.holds Tryd.pinned (OpenSpec.ofChange shapeSameWrong)

/-- 'heraldlaw16.ShapeMakes': WHATEVER THE INPUT: true; the input reads as it did. -/
def shapeMakesSpec : ChangeSpec := { name := "shapeMakes", fn := fun _ => fun
  | [d1, d2] => { results := [.lit (.bool true)], args := [d1, d2] }
  | _ => none }
def shapeMakesRow : OpenClaim := { program := "ytfgllkflnkolhaadoor", sum := "d25cf1df17a3f3bdb8788175e5f91747d3d5850da3b3fb354e803909376dd5b2", func := "herald/heraldlaw16.ShapeMakes", spec := "shapeMakes", unfollowed := true, recurses := true, named := ["herald/rope.quarterSines"], plainKeys := false, apart := false, laid := [("herald/rope.quarterSines", laid_herald_rope_quarterSines)] }
def ShapeMakesSaid : Prop := shapeMakesRow.holds Tryd.pinned (OpenSpec.ofChange shapeMakesSpec)

/-- ITS FALSE NEIGHBOUR: 'it returns false'. Refute it at one input. -/
def shapeMakesWrong : ChangeSpec := { name := "shapeMakes", fn := fun _ => fun
  | [d1, d2] => { results := [.lit (.bool false)], args := [d1, d2] }
  | _ => none }
def ShapeMakesWrongFalsely : Prop := shapeMakesRow.holds Tryd.pinned (OpenSpec.ofChange shapeMakesWrong)

/-- 'heraldlaw16.ShapeCuts': WHATEVER THE INPUT: true; the input reads as it did. -/
def shapeCutsSpec : ChangeSpec := { name := "shapeCuts", fn := fun _ => fun
  | [d1, d2, d3] => { results := [.lit (.bool true)], args := [d1, d2, d3] }
  | _ => none }
def shapeCutsRow : OpenClaim := { program := "ytfgllkflnkolhaadoor", sum := "d25cf1df17a3f3bdb8788175e5f91747d3d5850da3b3fb354e803909376dd5b2", func := "herald/heraldlaw16.ShapeCuts", spec := "shapeCuts", unfollowed := true, recurses := true, named := ["herald/rope.quarterSines"], plainKeys := false, apart := false, laid := [("herald/rope.quarterSines", laid_herald_rope_quarterSines)] }
def ShapeCutsSaid : Prop := shapeCutsRow.holds Tryd.pinned (OpenSpec.ofChange shapeCutsSpec)

/-- ITS FALSE NEIGHBOUR: 'it returns false'. Refute it at one input. -/
def shapeCutsWrong : ChangeSpec := { name := "shapeCuts", fn := fun _ => fun
  | [d1, d2, d3] => { results := [.lit (.bool false)], args := [d1, d2, d3] }
  | _ => none }
def ShapeCutsWrongFalsely : Prop := shapeCutsRow.holds Tryd.pinned (OpenSpec.ofChange shapeCutsWrong)

/- THE SECOND FORM. 'bulk': how many values and letters a reading holds, each counted each time it is reached (what is shared counts as often as it is met; a slice's spare places count too). A statement '..UptoSaid' is the law's where the arguments, and the package variables that the reading takes, are together of bulk at most 1048576: NARROWER than '..Said'. Prove '..Said' where nothing that the law and all that it calls make is longer than what came in: it says more and counts as full. Else prove '..UptoSaid'. A law counts once. -/
mutual
def uptoBulk {H : Type} : DataW H → Nat
  | .lit (.string bytes) => bytes.length + 1
  | .lit _ => 1
  | .nil => 1
  | .ptr d => uptoBulk d + 1
  | .slice elems spare => uptoBulkAll elems + uptoBulkAll spare + 1
  | .agg parts => uptoBulkAll parts + 1
  | .iface _ d => uptoBulk d + 1
  | .map entries => uptoBulkEntries entries + 1
  | .held _ => 1
def uptoBulkAll {H : Type} : List (DataW H) → Nat
  | [] => 0
  | d :: r => uptoBulk d + uptoBulkAll r
def uptoBulkEntries {H : Type} : List (Lit × DataW H) → Nat
  | [] => 0
  | x :: r => uptoBulkEntry x + uptoBulkEntries r
def uptoBulkEntry {H : Type} : Lit × DataW H → Nat
  | (.string bytes, d) => bytes.length + uptoBulk d + 1
  | (_, d) => uptoBulk d + 1
 end
def uptoSmall : (H : Type) → List (DataW H) → Bool := fun _ ds => decide (uptoBulkAll ds ≤ 1048576)
def OpenSpec.upto (s : _root_.Go.ChangeSpec) : _root_.Go.OpenSpec := { _root_.Go.OpenSpec.ofChange s with cond := some uptoSmall }

/-- 'heraldlaw16.ShapeChecks', WHERE WHAT IT READS IS OF BULK AT MOST 1048576: true; the input reads as it did. -/
def shapeChecksUptoRow : OpenClaim := { program := "ytfgllkflnkolhaadoor", sum := "d25cf1df17a3f3bdb8788175e5f91747d3d5850da3b3fb354e803909376dd5b2", func := "herald/heraldlaw16.ShapeChecks", spec := "shapeChecks", unfollowed := true, recurses := true, named := ["herald/rope.quarterSines"], plainKeys := false, apart := false, laid := [("herald/rope.quarterSines", laid_herald_rope_quarterSines)], narrowed := true }
def ShapeChecksUptoSaid : Prop := shapeChecksUptoRow.holds Tryd.pinned (OpenSpec.upto shapeChecksSpec)

/-- 'heraldlaw16.ShapeSamples', WHERE WHAT IT READS IS OF BULK AT MOST 1048576: true; the input reads as it did. -/
def shapeSamplesUptoRow : OpenClaim := { program := "ytfgllkflnkolhaadoor", sum := "d25cf1df17a3f3bdb8788175e5f91747d3d5850da3b3fb354e803909376dd5b2", func := "herald/heraldlaw16.ShapeSamples", spec := "shapeSamples", unfollowed := true, recurses := true, named := ["herald/rope.quarterSines"], plainKeys := false, apart := false, laid := [("herald/rope.quarterSines", laid_herald_rope_quarterSines)], narrowed := true }
def ShapeSamplesUptoSaid : Prop := shapeSamplesUptoRow.holds Tryd.pinned (OpenSpec.upto shapeSamplesSpec)

/-- 'heraldlaw16.ShapeValid', WHERE WHAT IT READS IS OF BULK AT MOST 1048576: true; the input reads as it did. -/
def shapeValidUptoRow : OpenClaim := { program := "ytfgllkflnkolhaadoor", sum := "d25cf1df17a3f3bdb8788175e5f91747d3d5850da3b3fb354e803909376dd5b2", func := "herald/heraldlaw16.ShapeValid", spec := "shapeValid", unfollowed := true, recurses := true, named := ["herald/rope.quarterSines"], plainKeys := false, apart := false, laid := [("herald/rope.quarterSines", laid_herald_rope_quarterSines)], narrowed := true }
def ShapeValidUptoSaid : Prop := shapeValidUptoRow.holds Tryd.pinned (OpenSpec.upto shapeValidSpec)

/-- 'heraldlaw16.ShapeReaches', WHERE WHAT IT READS IS OF BULK AT MOST 1048576: true; the input reads as it did. -/
def shapeReachesUptoRow : OpenClaim := { program := "ytfgllkflnkolhaadoor", sum := "d25cf1df17a3f3bdb8788175e5f91747d3d5850da3b3fb354e803909376dd5b2", func := "herald/heraldlaw16.ShapeReaches", spec := "shapeReaches", unfollowed := true, recurses := true, named := ["herald/rope.quarterSines"], plainKeys := false, apart := false, laid := [("herald/rope.quarterSines", laid_herald_rope_quarterSines)], narrowed := true }
def ShapeReachesUptoSaid : Prop := shapeReachesUptoRow.holds Tryd.pinned (OpenSpec.upto shapeReachesSpec)

/-- 'heraldlaw16.ShapeCosts', WHERE WHAT IT READS IS OF BULK AT MOST 1048576: true; the input reads as it did. -/
def shapeCostsUptoRow : OpenClaim := { program := "ytfgllkflnkolhaadoor", sum := "d25cf1df17a3f3bdb8788175e5f91747d3d5850da3b3fb354e803909376dd5b2", func := "herald/heraldlaw16.ShapeCosts", spec := "shapeCosts", unfollowed := true, recurses := true, named := ["herald/rope.quarterSines"], plainKeys := false, apart := false, laid := [("herald/rope.quarterSines", laid_herald_rope_quarterSines)], narrowed := true }
def ShapeCostsUptoSaid : Prop := shapeCostsUptoRow.holds Tryd.pinned (OpenSpec.upto shapeCostsSpec)

/-- 'heraldlaw16.ShapeSame', WHERE WHAT IT READS IS OF BULK AT MOST 1048576: true; the input reads as it did. -/
def shapeSameUptoRow : OpenClaim := { program := "ytfgllkflnkolhaadoor", sum := "d25cf1df17a3f3bdb8788175e5f91747d3d5850da3b3fb354e803909376dd5b2", func := "herald/heraldlaw16.ShapeSame", spec := "shapeSame", unfollowed := true, recurses := true, named := ["herald/rope.quarterSines"], plainKeys := false, apart := false, laid := [("herald/rope.quarterSines", laid_herald_rope_quarterSines)], narrowed := true }
def ShapeSameUptoSaid : Prop := shapeSameUptoRow.holds Tryd.pinned (OpenSpec.upto shapeSameSpec)

/-- 'heraldlaw16.ShapeMakes', WHERE WHAT IT READS IS OF BULK AT MOST 1048576: true; the input reads as it did. -/
def shapeMakesUptoRow : OpenClaim := { program := "ytfgllkflnkolhaadoor", sum := "d25cf1df17a3f3bdb8788175e5f91747d3d5850da3b3fb354e803909376dd5b2", func := "herald/heraldlaw16.ShapeMakes", spec := "shapeMakes", unfollowed := true, recurses := true, named := ["herald/rope.quarterSines"], plainKeys := false, apart := false, laid := [("herald/rope.quarterSines", laid_herald_rope_quarterSines)], narrowed := true }
def ShapeMakesUptoSaid : Prop := shapeMakesUptoRow.holds Tryd.pinned (OpenSpec.upto shapeMakesSpec)

/-- 'heraldlaw16.ShapeCuts', WHERE WHAT IT READS IS OF BULK AT MOST 1048576: true; the input reads as it did. -/
def shapeCutsUptoRow : OpenClaim := { program := "ytfgllkflnkolhaadoor", sum := "d25cf1df17a3f3bdb8788175e5f91747d3d5850da3b3fb354e803909376dd5b2", func := "herald/heraldlaw16.ShapeCuts", spec := "shapeCuts", unfollowed := true, recurses := true, named := ["herald/rope.quarterSines"], plainKeys := false, apart := false, laid := [("herald/rope.quarterSines", laid_herald_rope_quarterSines)], narrowed := true }
def ShapeCutsUptoSaid : Prop := shapeCutsUptoRow.holds Tryd.pinned (OpenSpec.upto shapeCutsSpec)

end Rows
end Go.Proofs.YtfgllkflnkolhaaDoor
