/-
  Bulk: WireTwo's pair.
-/
import Derived.Test.YtihjpjpellagiaaVolW
import Derived.Test.YtihjpjpellagiaaShapes
set_option linter.unusedVariables false
namespace Go.Wk.Ytihjpjpellagiaa
open Go Go.Wk Go.Proofs Go.Proofs.Ytihjpjpellagiaa
def pairS : Sh := .st (.pr opsS (.pr opsS (.pr .str (.pr .str .un))))
theorem pair_fit : fit Try.prog pairS 56 [] 0 = true := by kernel_rfl
def pairO (x : pairS.D) : List OpV := List.map OpV.of x.1
def pairT (x : pairS.D) : List OpV := List.map OpV.of x.2.1
def pairA (x : pairS.D) : List UInt8 := x.2.2.1
def pairB (x : pairS.D) : List UInt8 := x.2.2.2.1
theorem see_pair {w : World} {cs : List Value} {x : pairS.D} (h : See w pairS cs x) : ∃ A1 c1 A2 c2, cs = [.slice A1 (pairO x).length c1, .slice A2 (pairT x).length c2, .string (sOf (pairA x)), .string (sOf (pairB x))] ∧ OpsC w A1 (pairO x) ∧ OpsC w A2 (pairT x) := by
  obtain ⟨a, b, s, t, u⟩ := x
  obtain ⟨u1, r1, rfl, g1, u2, r2, rfl, g2, u3, r3, rfl, g3, u4, r4, rfl, g4, g5⟩ := h
  obtain ⟨A1, c1, rfl, _, h1⟩ := see_ops g1
  obtain ⟨A2, c2, rfl, _, h2⟩ := see_ops g2
  have g3 : u3 = [.string (sOf s)] := g3
  have g4 : u4 = [.string (sOf t)] := g4
  have g5 : r4 = [] := g5
  subst g3 g4 g5
  exact ⟨A1, c1, A2, c2, rfl, h1, h2⟩
theorem pair_small {H : Type} {x : pairS.D} {d : DataW H} (h : Dt pairS x [d]) {m : Nat} (hk : Rows.uptoBulkAll [d] ≤ m) : volB (pairO x) ≤ 2 * m ∧ volB (pairT x) ≤ 2 * m ∧ (pairA x).length ≤ m ∧ (pairB x).length ≤ m := by
  have h1 := bulk_ge pairS x [d] h
  obtain ⟨a, b, s, t, u⟩ := x
  have h2 := vol_ops a
  have h3 := vol_ops b
  have h4 : pairS.vol (a, b, s, t, u) = ((List.map (β := Nat) opS.vol a).sum + 1) + (((List.map (β := Nat) opS.vol b).sum + 1) + ((List.length (α := UInt8) s + 1) + ((List.length (α := UInt8) t + 1) + 0))) + 1 := rfl
  rw [h4] at h1
  refine ⟨?_, ?_, ?_, ?_⟩
  · show volB (List.map OpV.of a) ≤ _
    omega
  · show volB (List.map OpV.of b) ≤ _
    omega
  · show List.length (α := UInt8) s ≤ _
    omega
  · show List.length (α := UInt8) t ≤ _
    omega
end Go.Wk.Ytihjpjpellagiaa
