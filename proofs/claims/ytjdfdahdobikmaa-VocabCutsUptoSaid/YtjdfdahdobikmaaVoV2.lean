/-
  Chapter 13: the bulk of a row of texts.
-/
import Derived.Test.YtjdfdahdobikmaaVoV
import Derived.Test.YtjdfdahdobikmaaVoW
set_option linter.unusedVariables false
namespace Go.Wk.Ytjdfdahdobikmaa
open Go Go.Wk Go.Proofs Go.Proofs.Ytjdfdahdobikmaa

theorem tot_le : ∀ l : List (List UInt8), tot l ≤ volT l
  | [] => Nat.le_refl _
  | u :: l => by
    have ih := tot_le l
    simp only [tot, volT, List.map_cons, List.sum_cons] at ih ⊢
    omega
theorem tot_small {H : Type} {x : (Sh.sl .str).D} {d : DataW H} (h : Dt (.sl .str) x [d]) {m : Nat} (hk : Rows.uptoBulkAll [d] ≤ m) : tot (id x : List (List UInt8)) ≤ m := by
  have h1 := bulk_ge (.sl .str) x [d] h
  have h3 : (Sh.sl .str).vol x = volT x + 1 := rfl
  have h4 := tot_le x
  show tot x ≤ m
  omega
theorem see_voc2 {w : World} {cs : List Value} {x : vocS.D} (h : See w vocS cs x) : ∃ A c B d, cs = [.slice A (vocOf x).texts.length c, .slice B (vocOf x).merges.length d] ∧ Vo w A B (vocOf x) ∧ (vocOf x).texts.length ≤ c ∧ c ≤ 9223372036854775807 := by
  obtain ⟨A, c, B, d, e, hV⟩ := see_voc h
  refine ⟨A, c, B, d, e, hV, ?_⟩
  obtain ⟨ts, ms, u⟩ := x
  obtain ⟨u1, r1, rfl, g1, u2, r2, rfl, g2, g3⟩ := h
  obtain ⟨A', c', rfl, h1, h2, h3⟩ := g1
  simp only [List.cons_append, List.nil_append, List.cons.injEq, Value.slice.injEq] at e
  obtain ⟨⟨_, _, e⟩, _⟩ := e
  subst e
  have h2 : c' ≤ 9223372036854775807 := h2
  exact ⟨h1, h2⟩
end Go.Wk.Ytjdfdahdobikmaa
