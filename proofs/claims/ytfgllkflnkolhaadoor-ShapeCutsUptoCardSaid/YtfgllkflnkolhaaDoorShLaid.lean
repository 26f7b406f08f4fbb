/-
  Chapter 16: what the rows' lists give, and a world that holds the table of sines; the shapes of the arguments.
-/
import Derived.Test.YtfgllkflnkolhaaDoorCards
import Derived.Test.YtfgllkflnkolhaaDoorTie
import Derived.Test.YtfgllkflnkolhaaDoorShut
import Derived.Test.YtfgllkflnkolhaaDoorOpen
import Derived.Test.YtfgllkflnkolhaaDoorShE
import Derived.Test.YtfgllkflnkolhaaDoorVoV
import Derived.Test.YtfgllkflnkolhaaDoorShA
import Derived.OpenShut
import Derived.Deep.DeepHandedRow
import Derived.Lib.LaidU8T
import Derived.PinnedBridge
set_option linter.unusedVariables false
namespace Go.Wk.YtfgllkflnkolhaaDoor
open Go Go.Wk Go.Proofs Go.Proofs.YtfgllkflnkolhaaDoor Go.Lib Go.ChangeShapes Go.WideShapes Go.ChangeAt Go.RowKit

abbrev tabs : List (String × DataW Unit) := [("herald/rope.quarterSines", Rows.laid_herald_rope_quarterSines)]
set_option maxRecDepth 100000 in
theorem sines_eq : (Rows.laid_herald_rope_quarterSines : DataW Unit) = tabData .i8 sinT := by kernel_rfl
/-- what the lists give -/
theorem qt_of {W : World} (h : laidMetH Tryd.prog tabs W) : QT W := by
  have h : laidMet Tryd.prog tabs W := h
  have h3 : VarReads Tryd.prog W "herald/rope.quarterSines" (tabData .i8 sinT) := by
    have := Lib.laidMet.reads h (n := "herald/rope.quarterSines") (.head _)
    rw [sines_eq] at this; exact this
  intro i hi
  obtain ⟨g, t, cs, fuel, p, hg, hty, hvar, hd⟩ := h3
  obtain rfl : (0 : Nat) = g := Option.some.inj ((show Tryd.prog.globalNamed "herald/rope.quarterSines" = some 0 by kernel_rfl).symm.trans hg)
  obtain rfl : 156 = t := Option.some.inj ((show (Tryd.prog.globals[0]?).map (·.type) = some 156 by kernel_rfl).symm.trans hty)
  have hcs := cells_of_tab (n := 65) (e := 56) (by kernel_rfl) Tryd.underlying56 (by kernel_rfl) (by kernel_rfl) hd
  have := World.var?_cell hg hvar i
  rw [this, ← Array.getElem?_toList, hcs, List.getElem?_map, List.getD_eq_getElem?_getD, List.getElem?_eq_getElem (show i < sinT.length from hi)]
  rfl

def cells0 : Array Value := (sinT.map fun z => Value.int .i8 z).toArray
def putT (c : Array Value) : Obj → Obj
  | .cells _ t frozen => .cells c t frozen
  | o => o
/-- a world for a row's witness: the settled one, the table laid -/
noncomputable def laidWorld (os : Os) : World :=
  { World.holding Tryd.prog os ⟨#[], #[], []⟩ with heap := (World.holding Tryd.prog os ⟨#[], #[], []⟩).heap.modify 0 (putT cells0) }
set_option maxRecDepth 100000 in
theorem laid_met (os : Os) (args : Array Value) : laidMet Tryd.prog tabs ((laidWorld os).forCall (fun _ _ => 0) ⟨#[], args, []⟩).memory :=
  laidMet_of_run' 8 (by kernel_rfl) (by kernel_rfl)

/-- a shape as an argument -/
def shpS : Sh := .st (.pr (.int .i64) (.pr (.int .i64) (.pr (.int .i64) (.pr (.int .i64) (.pr (.int .i64) (.pr (.int .i64) .un))))))
theorem see_shp {w : World} {cs : List Value} {x : shpS.D} (h : See w shpS cs x) : ∃ s : Shp, cs = shpC s := by
  obtain ⟨c1, r1, rfl, ⟨rfl, _⟩, c2, r2, rfl, ⟨rfl, _⟩, c3, r3, rfl, ⟨rfl, _⟩, c4, r4, rfl, ⟨rfl, _⟩, c5, r5, rfl, ⟨rfl, _⟩, c6, r6, rfl, ⟨rfl, _⟩, h7⟩ := h
  have h7 : r6 = [] := h7
  subst h7
  exact ⟨⟨_, _, _, _, _, _⟩, rfl⟩
theorem shp_fit : fit Tryd.prog shpS 23 [] 0 = true := by kernel_rfl
end Go.Wk.YtfgllkflnkolhaaDoor
