/-
  Bulk: rows of texts.
-/
import Derived.Test.YtihjpjpellagiaaVolM
import Derived.Test.YtihjpjpellagiaaWireH
set_option linter.unusedVariables false
namespace Go.Wk.Ytihjpjpellagiaa
open Go Go.Wk Go.Proofs Go.Proofs.Ytihjpjpellagiaa
theorem strs_small {H : Type} {x : (Sh.sl .str).D} {d : DataW H} (h : Dt (.sl .str) x [d]) {m : Nat} (hk : Rows.uptoBulkAll [d] ≤ m) : volT x ≤ m := by
  have h1 := bulk_ge (.sl .str) x [d] h
  have h3 : (Sh.sl .str).vol x = volT x + 1 := rfl
  omega
end Go.Wk.Ytihjpjpellagiaa
