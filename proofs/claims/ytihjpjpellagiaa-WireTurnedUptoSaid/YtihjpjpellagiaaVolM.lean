/-
  Bulk: a row of small numbers.
-/
import Derived.Test.YtihjpjpellagiaaVolW
set_option linter.unusedVariables false
namespace Go.Wk.Ytihjpjpellagiaa
open Go Go.Wk Go.Proofs Go.Proofs.Ytihjpjpellagiaa
theorem i8s_small {H : Type} {x : (Sh.sl .i8).D} {d : DataW H} (h : Dt (.sl .i8) x [d]) {m : Nat} (hk : Rows.uptoBulkAll [d] ≤ m) : List.length (α := Int8) x ≤ m := by
  have h1 := bulk_ge (.sl .i8) x [d] h
  have h2 := sum_one x
  have h3 : (Sh.sl .i8).vol x = (List.map (β := Nat) (Sh.i8).vol x).sum + 1 := rfl
  omega
theorem small3 {H : Type} {d0 d1 d2 : DataW H} (hk : Rows.uptoSmall H ([d0, d1, d2] ++ []) = true) : Rows.uptoBulkAll [d0] ≤ 1048576 ∧ Rows.uptoBulkAll [d1] ≤ 1048576 ∧ Rows.uptoBulkAll [d2] ≤ 1048576 := by
  have h : Rows.uptoBulk d0 + (Rows.uptoBulk d1 + (Rows.uptoBulk d2 + 0)) ≤ 1048576 := of_decide_eq_true hk
  exact ⟨show Rows.uptoBulk d0 + 0 ≤ _ by omega, show Rows.uptoBulk d1 + 0 ≤ _ by omega, show Rows.uptoBulk d2 + 0 ≤ _ by omega⟩
end Go.Wk.Ytihjpjpellagiaa
