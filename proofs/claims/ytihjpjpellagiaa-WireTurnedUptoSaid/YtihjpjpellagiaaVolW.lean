/-
  Bulk: scripts.
-/
import Derived.Test.YtihjpjpellagiaaVol
import Derived.Test.YtihjpjpellagiaaWireW
set_option linter.unusedVariables false
namespace Go.Wk.Ytihjpjpellagiaa
open Go Go.Wk Go.Proofs.Ytihjpjpellagiaa
theorem sum_one : ∀ l : List Int8, (List.map (β := Nat) (Sh.i8).vol l).sum = List.length (α := Int8) l
  | [] => rfl
  | x :: l => by
    have := sum_one l
    show 1 + (List.map (β := Nat) (Sh.i8).vol l).sum = List.length (α := Int8) l + 1
    omega
theorem vol_op (x : opS.D) : (OpV.of x).vol ≤ 2 * opS.vol x := by
  obtain ⟨a, b, c, l, s, u⟩ := x
  have := sum_one l
  show List.length (α := Int8) l + List.length (α := UInt8) s + 8 ≤ 2 * (1 + (1 + (1 + (((List.map (β := Nat) (Sh.i8).vol l).sum + 1) + ((List.length (α := UInt8) s + 1) + 0)))) + 1)
  omega
theorem vol_ops : ∀ l : List opS.D, volB (l.map OpV.of) ≤ 2 * (l.map opS.vol).sum
  | [] => by simp [volB]
  | x :: l => by
    have h1 := vol_ops l
    have h2 := vol_op x
    simp only [volB, List.map_cons, List.sum_cons] at *
    omega
theorem ops_small {H : Type} {x : opsS.D} {d : DataW H} (h : Dt opsS x [d]) {m : Nat} (hk : Rows.uptoBulkAll [d] ≤ m) : volB (x.map OpV.of) ≤ 2 * m := by
  have h1 := bulk_ge opsS x [d] h
  have h2 := vol_ops x
  have h3 : opsS.vol x = (x.map opS.vol).sum + 1 := rfl
  omega
theorem small2 {H : Type} {d0 d1 : DataW H} (hk : Rows.uptoSmall H ([d0, d1] ++ []) = true) : Rows.uptoBulkAll [d0] ≤ 1048576 ∧ Rows.uptoBulkAll [d1] ≤ 1048576 := by
  have h : Rows.uptoBulk d0 + (Rows.uptoBulk d1 + 0) ≤ 1048576 := of_decide_eq_true hk
  exact ⟨show Rows.uptoBulk d0 + 0 ≤ _ by omega, show Rows.uptoBulk d1 + 0 ≤ _ by omega⟩
theorem small1 {H : Type} {d0 : DataW H} (hk : Rows.uptoSmall H ([d0] ++ []) = true) : Rows.uptoBulkAll [d0] ≤ 1048576 := of_decide_eq_true hk
theorem str_small {H : Type} {s : List UInt8} {m : Nat} (hk : Rows.uptoBulkAll [DataW.lit (H := H) (.string s)] ≤ m) : s.length ≤ m := by
  have h : s.length + 1 + 0 ≤ m := hk
  omega
end Go.Wk.Ytihjpjpellagiaa
