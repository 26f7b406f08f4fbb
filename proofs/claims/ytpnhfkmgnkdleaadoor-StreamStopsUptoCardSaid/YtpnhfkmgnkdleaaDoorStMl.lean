/-
  Chapter 14: what the world's shape says of the machine's own search.
-/
import Derived.Test.YtpnhfkmgnkdleaaDoorSpA
import Derived.Test.YtpnhfkmgnkdleaaDoorStV2
import Derived.Shelf.Vars
set_option linter.unusedVariables false
namespace Go.Wk.YtpnhfkmgnkdleaaDoor
open Go Go.Wk Go.Proofs Go.Proofs.YtpnhfkmgnkdleaaDoor
theorem ml_of {W : World} (h : W.ShapedOpen Tryd.prog) : ML W :=
  cell_of_shapedOpen_int (g := 2) (t := 3) (zero := #[.int .i64 0]) (k := .i64) h (of_decide_eq_true (by kernel_rfl)) (by kernel_rfl) rfl (by kernel_rfl) (by kernel_rfl) Tryd.underlying3
end Go.Wk.YtpnhfkmgnkdleaaDoor
