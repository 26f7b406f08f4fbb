/-
  Chapter 14: what the rows' lists give, and a world that holds the two tables.
-/
import Derived.Test.YtpnhfkmgnkdleaaDoorCards
import Derived.Test.YtpnhfkmgnkdleaaDoorTie
import Derived.Test.YtpnhfkmgnkdleaaDoorShut
import Derived.Test.YtpnhfkmgnkdleaaDoorStU
import Derived.OpenShut
import Derived.Deep.DeepHandedRow
import Derived.Lib.LaidU8T
import Derived.PinnedBridge
set_option linter.unusedVariables false
namespace Go.Wk.YtpnhfkmgnkdleaaDoor
open Go Go.Wk Go.Proofs Go.Proofs.YtpnhfkmgnkdleaaDoor Go.Lib Go.ChangeShapes Go.WideShapes Go.ChangeAt Go.RowKit

def ren : Shelf.Ren where
  f := fun x => x
  t := fun x => if x = 5 then 5 else if x = 119 then 121 else if x = 138 then 123 else 124
  g := fun x => if x = 3 then 0 else 1
theorem renTypes : U8Types Tryd.prog ren := ⟨by kernel_rfl, by kernel_rfl, by kernel_rfl, by kernel_rfl⟩
theorem renExtra : U8Extra Tryd.prog ren := ⟨by kernel_rfl, by kernel_rfl, by kernel_rfl, by kernel_rfl, by kernel_rfl, by kernel_rfl, by kernel_rfl⟩
abbrev tabs : List (String × DataW Unit) := [("unicode/utf8.acceptRanges", Rows.laid_unicode_utf8_acceptRanges), ("unicode/utf8.first", Rows.laid_unicode_utf8_first)]
set_option maxRecDepth 100000 in
theorem accept_eq : (Rows.laid_unicode_utf8_acceptRanges : DataW Unit) = acceptData := by kernel_rfl
theorem first_eq : Rows.laid_unicode_utf8_first = firstData := Pinned.utf8First_eq
/-- what the lists give -/
theorem ut_of {W : World} (h : laidMetH Tryd.prog tabs W) : UT W := by
  have h : laidMet Tryd.prog tabs W := h
  have h3 : VarReads Tryd.prog W "unicode/utf8.first" firstData := by
    have := Lib.laidMet.reads h (n := "unicode/utf8.first") (.tail _ (.head _))
    rw [first_eq] at this; exact this
  have h4 : VarReads Tryd.prog W "unicode/utf8.acceptRanges" acceptData := by
    have := Lib.laidMet.reads h (n := "unicode/utf8.acceptRanges") (.head _)
    rw [accept_eq] at this; exact this
  have := utf8Tabs_of_readsT renTypes renExtra h3 h4
  exact ⟨this.1, fun i hi => this.2 i (by omega)⟩

def cells0 : Array Value := ((List.range 256).map fun c => Value.int .u8 (firstT c)).toArray
def cells1 : Array Value := ((List.range 16).flatMap fun i => [Value.int .u8 (accLo i), Value.int .u8 (accHi i)]).toArray
def putT (c : Array Value) : Obj → Obj
  | .cells _ t frozen => .cells c t frozen
  | o => o
/-- a world for a row's witness: the settled one, the two tables laid -/
noncomputable def laidWorld (os : Os) : World :=
  { World.holding Tryd.prog os ⟨#[], #[], []⟩ with heap := ((World.holding Tryd.prog os ⟨#[], #[], []⟩).heap.modify 0 (putT cells0)).modify 1 (putT cells1) }
set_option maxRecDepth 100000 in
theorem laid_met (os : Os) (args : Array Value) : laidMet Tryd.prog tabs ((laidWorld os).forCall (fun _ _ => 0) ⟨#[], args, []⟩).memory :=
  laidMet_of_run' 8 (by kernel_rfl) (by kernel_rfl)
end Go.Wk.YtpnhfkmgnkdleaaDoor
