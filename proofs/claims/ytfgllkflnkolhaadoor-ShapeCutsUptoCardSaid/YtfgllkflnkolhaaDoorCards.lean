/-
  DERIVED. GIVEN WITH THE SEED: THE CARDS: each row of YtfgllkflnkolhaaDoorRows.lean that lists a variable, with what it lists TIED to the program's text (the seventh form; the later family's looks); each row that meets fmt, with fmt's text TOLD by the authors' own Lean function (tested against real Go, not proved from fmt's source: count such statements apart). THE CARD IS WHAT COUNTS. Prove the row's statement (the work); the ties are given (YtfgllkflnkolhaaDoorTie.lean); close each card by the builder's one call (the guide's Derived/Test/ToyasCard.lean, 'card_holds'). Laid BY PROGRAM, IN A SANDBOX (cutbox-door.mjs). By AI agents, Wed Nov 11 2026. No macro, syntax, notation, axiom, sorry.
-/
import Derived.Test.YtfgllkflnkolhaaDoorRows
import GoSem.ClaimSeven
namespace Go.Proofs.YtfgllkflnkolhaaDoor
namespace Rows

/-- THE TIED CARD OF 'heraldlaw16.ShapeChecks'. -/
def shapeChecksCard : Claim7 := { stood := { row := shapeChecksRow, standIns := [], harness := (true, "413bbe5b512f72f1eac5b71b6988ccc5ff12262a26469ed68073e8f34f9256c1"), looks := false }, kinds := [], alts := [], laidByText := true, laidKinds := [.data], laidTests := true, laidLooks := .later }
def ShapeChecksCardSaid : Prop := Claim7.holds Tryd.pinned (.plain (OpenSpec.ofChange shapeChecksSpec)) shapeChecksCard

/-- THE TIED CARD OF 'heraldlaw16.ShapeSamples'. -/
def shapeSamplesCard : Claim7 := { stood := { row := shapeSamplesRow, standIns := [], harness := (true, "413bbe5b512f72f1eac5b71b6988ccc5ff12262a26469ed68073e8f34f9256c1"), looks := false }, kinds := [], alts := [], laidByText := true, laidKinds := [.data], laidTests := true, laidLooks := .later }
def ShapeSamplesCardSaid : Prop := Claim7.holds Tryd.pinned (.plain (OpenSpec.ofChange shapeSamplesSpec)) shapeSamplesCard

/-- THE TIED CARD OF 'heraldlaw16.ShapeValid'. -/
def shapeValidCard : Claim7 := { stood := { row := shapeValidRow, standIns := [], harness := (true, "413bbe5b512f72f1eac5b71b6988ccc5ff12262a26469ed68073e8f34f9256c1"), looks := false }, kinds := [], alts := [], laidByText := true, laidKinds := [.data], laidTests := true, laidLooks := .later }
def ShapeValidCardSaid : Prop := Claim7.holds Tryd.pinned (.plain (OpenSpec.ofChange shapeValidSpec)) shapeValidCard

/-- THE TIED CARD OF 'heraldlaw16.ShapeReaches'. -/
def shapeReachesCard : Claim7 := { stood := { row := shapeReachesRow, standIns := [], harness := (true, "413bbe5b512f72f1eac5b71b6988ccc5ff12262a26469ed68073e8f34f9256c1"), looks := false }, kinds := [], alts := [], laidByText := true, laidKinds := [.data], laidTests := true, laidLooks := .later }
def ShapeReachesCardSaid : Prop := Claim7.holds Tryd.pinned (.plain (OpenSpec.ofChange shapeReachesSpec)) shapeReachesCard

/-- THE TIED CARD OF 'heraldlaw16.ShapeCosts'. -/
def shapeCostsCard : Claim7 := { stood := { row := shapeCostsRow, standIns := [], harness := (true, "413bbe5b512f72f1eac5b71b6988ccc5ff12262a26469ed68073e8f34f9256c1"), looks := false }, kinds := [], alts := [], laidByText := true, laidKinds := [.data], laidTests := true, laidLooks := .later }
def ShapeCostsCardSaid : Prop := Claim7.holds Tryd.pinned (.plain (OpenSpec.ofChange shapeCostsSpec)) shapeCostsCard

/-- THE TIED CARD OF 'heraldlaw16.ShapeSame'. -/
def shapeSameCard : Claim7 := { stood := { row := shapeSameRow, standIns := [], harness := (true, "413bbe5b512f72f1eac5b71b6988ccc5ff12262a26469ed68073e8f34f9256c1"), looks := false }, kinds := [], alts := [], laidByText := true, laidKinds := [.data], laidTests := true, laidLooks := .later }
def ShapeSameCardSaid : Prop := Claim7.holds Tryd.pinned (.plain (OpenSpec.ofChange shapeSameSpec)) shapeSameCard

/-- THE TIED CARD OF 'heraldlaw16.ShapeMakes'. -/
def shapeMakesCard : Claim7 := { stood := { row := shapeMakesRow, standIns := [], harness := (true, "413bbe5b512f72f1eac5b71b6988ccc5ff12262a26469ed68073e8f34f9256c1"), looks := false }, kinds := [], alts := [], laidByText := true, laidKinds := [.data], laidTests := true, laidLooks := .later }
def ShapeMakesCardSaid : Prop := Claim7.holds Tryd.pinned (.plain (OpenSpec.ofChange shapeMakesSpec)) shapeMakesCard

/-- THE TIED CARD OF 'heraldlaw16.ShapeCuts'. -/
def shapeCutsCard : Claim7 := { stood := { row := shapeCutsRow, standIns := [], harness := (true, "413bbe5b512f72f1eac5b71b6988ccc5ff12262a26469ed68073e8f34f9256c1"), looks := false }, kinds := [], alts := [], laidByText := true, laidKinds := [.data], laidTests := true, laidLooks := .later }
def ShapeCutsCardSaid : Prop := Claim7.holds Tryd.pinned (.plain (OpenSpec.ofChange shapeCutsSpec)) shapeCutsCard

/-- THE SECOND FORM's CARD OF 'heraldlaw16.ShapeChecks'. -/
def shapeChecksUptoCard : Claim7 := { stood := { row := shapeChecksUptoRow, standIns := [], harness := (true, "413bbe5b512f72f1eac5b71b6988ccc5ff12262a26469ed68073e8f34f9256c1"), looks := false }, kinds := [], alts := [], laidByText := true, laidKinds := [.data], laidTests := true, laidLooks := .later }
def ShapeChecksUptoCardSaid : Prop := Claim7.holds Tryd.pinned (.plain (OpenSpec.upto shapeChecksSpec)) shapeChecksUptoCard

/-- THE SECOND FORM's CARD OF 'heraldlaw16.ShapeSamples'. -/
def shapeSamplesUptoCard : Claim7 := { stood := { row := shapeSamplesUptoRow, standIns := [], harness := (true, "413bbe5b512f72f1eac5b71b6988ccc5ff12262a26469ed68073e8f34f9256c1"), looks := false }, kinds := [], alts := [], laidByText := true, laidKinds := [.data], laidTests := true, laidLooks := .later }
def ShapeSamplesUptoCardSaid : Prop := Claim7.holds Tryd.pinned (.plain (OpenSpec.upto shapeSamplesSpec)) shapeSamplesUptoCard

/-- THE SECOND FORM's CARD OF 'heraldlaw16.ShapeValid'. -/
def shapeValidUptoCard : Claim7 := { stood := { row := shapeValidUptoRow, standIns := [], harness := (true, "413bbe5b512f72f1eac5b71b6988ccc5ff12262a26469ed68073e8f34f9256c1"), looks := false }, kinds := [], alts := [], laidByText := true, laidKinds := [.data], laidTests := true, laidLooks := .later }
def ShapeValidUptoCardSaid : Prop := Claim7.holds Tryd.pinned (.plain (OpenSpec.upto shapeValidSpec)) shapeValidUptoCard

/-- THE SECOND FORM's CARD OF 'heraldlaw16.ShapeReaches'. -/
def shapeReachesUptoCard : Claim7 := { stood := { row := shapeReachesUptoRow, standIns := [], harness := (true, "413bbe5b512f72f1eac5b71b6988ccc5ff12262a26469ed68073e8f34f9256c1"), looks := false }, kinds := [], alts := [], laidByText := true, laidKinds := [.data], laidTests := true, laidLooks := .later }
def ShapeReachesUptoCardSaid : Prop := Claim7.holds Tryd.pinned (.plain (OpenSpec.upto shapeReachesSpec)) shapeReachesUptoCard

/-- THE SECOND FORM's CARD OF 'heraldlaw16.ShapeCosts'. -/
def shapeCostsUptoCard : Claim7 := { stood := { row := shapeCostsUptoRow, standIns := [], harness := (true, "413bbe5b512f72f1eac5b71b6988ccc5ff12262a26469ed68073e8f34f9256c1"), looks := false }, kinds := [], alts := [], laidByText := true, laidKinds := [.data], laidTests := true, laidLooks := .later }
def ShapeCostsUptoCardSaid : Prop := Claim7.holds Tryd.pinned (.plain (OpenSpec.upto shapeCostsSpec)) shapeCostsUptoCard

/-- THE SECOND FORM's CARD OF 'heraldlaw16.ShapeSame'. -/
def shapeSameUptoCard : Claim7 := { stood := { row := shapeSameUptoRow, standIns := [], harness := (true, "413bbe5b512f72f1eac5b71b6988ccc5ff12262a26469ed68073e8f34f9256c1"), looks := false }, kinds := [], alts := [], laidByText := true, laidKinds := [.data], laidTests := true, laidLooks := .later }
def ShapeSameUptoCardSaid : Prop := Claim7.holds Tryd.pinned (.plain (OpenSpec.upto shapeSameSpec)) shapeSameUptoCard

/-- THE SECOND FORM's CARD OF 'heraldlaw16.ShapeMakes'. -/
def shapeMakesUptoCard : Claim7 := { stood := { row := shapeMakesUptoRow, standIns := [], harness := (true, "413bbe5b512f72f1eac5b71b6988ccc5ff12262a26469ed68073e8f34f9256c1"), looks := false }, kinds := [], alts := [], laidByText := true, laidKinds := [.data], laidTests := true, laidLooks := .later }
def ShapeMakesUptoCardSaid : Prop := Claim7.holds Tryd.pinned (.plain (OpenSpec.upto shapeMakesSpec)) shapeMakesUptoCard

/-- THE SECOND FORM's CARD OF 'heraldlaw16.ShapeCuts'. -/
def shapeCutsUptoCard : Claim7 := { stood := { row := shapeCutsUptoRow, standIns := [], harness := (true, "413bbe5b512f72f1eac5b71b6988ccc5ff12262a26469ed68073e8f34f9256c1"), looks := false }, kinds := [], alts := [], laidByText := true, laidKinds := [.data], laidTests := true, laidLooks := .later }
def ShapeCutsUptoCardSaid : Prop := Claim7.holds Tryd.pinned (.plain (OpenSpec.upto shapeCutsSpec)) shapeCutsUptoCard
end Rows
end Go.Proofs.YtfgllkflnkolhaaDoor
