/-
  Chapter 14: bulk of rows of texts, once more.
-/
import Derived.Test.YtpnhfkmgnkdleaaDoorStV
import Derived.Test.YtpnhfkmgnkdleaaDoorStY
set_option linter.unusedVariables false
namespace Go.Wk.YtpnhfkmgnkdleaaDoor
open Go Go.Wk Go.Proofs Go.Proofs.YtpnhfkmgnkdleaaDoor
theorem strs_vol {H : Type} {x : (Sh.sl .str).D} {d : DataW H} (h : Dt (.sl .str) x [d]) {m : Nat} (hk : Rows.uptoBulkAll [d] ≤ m) : volP x ≤ m := by
  have h1 := bulk_ge (.sl .str) x [d] h
  have h3 : (Sh.sl .str).vol x = volP x + 1 := rfl
  omega
end Go.Wk.YtpnhfkmgnkdleaaDoor
