/-
  Chapter 13: the bulk of a row of texts.
-/
import Derived.Test.YtjdfdahdobikmaaVoV
import Derived.Test.YtjdfdahdobikmaaVoW
set_option linter.unusedVariables false
namespace Go.Wk.Ytjdfdahdobikmaa
open Go Go.Wk Go.Proofs Go.Proofs.Ytjdfdahdobikmaa

theorem tot_le : ∀ l : List (List UInt8), tot l ≤ volT l
  | [] => Nat.le_refl _
  | u :: l => by
    have ih := tot_le l
    simp only [tot, volT, List.map_cons, List.sum_cons] at ih ⊢
    omega
theorem tot_small {H : Type} {x : (Sh.sl .str).D} {d : DataW H} (h : Dt (.sl .str) x [d]) {m : Nat} (hk : Rows.uptoBulkAll [d] ≤ m) : tot (id x : List (List UInt8)) ≤ m := by
  have h1 := bulk_ge (.sl .str) x [d] h
  have h3 : (Sh.sl .str).vol x = volT x + 1 := rfl
  have h4 := tot_le x
  show tot x ≤ m
  omega
end Go.Wk.Ytjdfdahdobikmaa
