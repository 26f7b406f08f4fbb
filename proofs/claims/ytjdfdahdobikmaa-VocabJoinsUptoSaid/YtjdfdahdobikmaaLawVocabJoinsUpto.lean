/- VocabJoinsUpto: tokens one behind the other; where what comes in is small -/
import Derived.Test.YtjdfdahdobikmaaRows
import Derived.Test.YtjdfdahdobikmaaShut
import Derived.Test.YtjdfdahdobikmaaVoV
import Derived.Test.YtjdfdahdobikmaaVoO
import Derived.Deep.CondSized
set_option linter.unusedVariables false
namespace Go.Proofs.Ytjdfdahdobikmaa.vocabJoinsUpto
open Go Go.Wk Go.Wk.Ytjdfdahdobikmaa Go.RowKit Go.ChangeShapes Go.WideShapes Go.ChangeAt
open Go.ChangeMaps (open_string shut_string)
theorem own : ownKnob Try.prog.godebug = none := by kernel_rfl
theorem laidOut : laidOutB Try.prog = true := by kernel_rfl
set_option maxRecDepth 100000 in
theorem lifted (os : Os) (started : os.Started) (H : Type) (enc : TypeId × Value → H) (F : Stop.Interp) :
    ReturnsInHanded {} Try.checked os 7 .any ((Rows.OpenSpec.upto Rows.vocabJoinsSpec).pre6 enc Try.prog Try.f7 Rows.vocabJoinsUptoRow.domain false) (((Rows.OpenSpec.upto Rows.vocabJoinsSpec).at F).post enc Try.prog Try.f7 false true false false) := by
  refine returnsInHanded_of_cond_sized (C := Try.checked) (s := (Rows.OpenSpec.upto Rows.vocabJoinsSpec)) (k := Rows.uptoSmall) rfl own started (by kernel_rfl) Try.func7
    (OpenSpec.witness (enc := enc) (C := Try.checked) (s := (Rows.OpenSpec.upto Rows.vocabJoinsSpec)) (k := Rows.uptoSmall) rfl false ⟨#[], #[.agg #[.slice none 0 0, .slice none 0 0], .slice none 0 0, .slice none 0 0], []⟩ 8 (by kernel_rfl) (by kernel_rfl) (by kernel_rfl)
      (x := ([.agg [.nil, .nil], .nil, .nil], [], [])) (by kernel_rfl) rfl (by kernel_rfl)) ?_
  intro W base args ds gs before hval0 hW hcnd hk hsz0 _
  have hsz : (DataW.weightsEach Try.prog (Try.f7.params.toList ++ Rows.vocabJoinsSpec.plain.varTypes Try.prog) (ds ++ gs)).all (· ≤ reachBytes) = true := hsz0
  have hval : ∀ (j : Nat) t v, Try.f7.params[j]? = some t → args[j]? = some v → Value.okWide Try.prog W .any base t v := hval0
  have hW' := hW
  obtain ⟨p, q, hA0, hV, rfl, hfz, hnd⟩ := hW
  have hA : DataW.TrodAll enc Try.prog W 0 (fun _ => true) true Try.f7.params.toList args.toList ds p := hA0
  rw [Try.params7] at hA hval hsz
  obtain ⟨v0, vs0, d0, ds0, p0, q0, hargs, rfl, rfl, h0, r0⟩ := trodAll_cons hA
  obtain ⟨v1, vs1, d1, ds1, p1, q1, rfl, rfl, rfl, h1, r1⟩ := trodAll_cons r0
  obtain ⟨v2, vs2, d2, ds2, p2, q2, rfl, rfl, rfl, h2, r2⟩ := trodAll_cons r1
  obtain ⟨rfl, rfl, rfl⟩ := trodAll_nil r2
  obtain rfl : args = #[v0, v1, v2] := by cases args; simp_all
  obtain ⟨rfl, rfl⟩ := trodVars_none hV
  obtain ⟨l0, rfl, e0⟩ := arg_agg Try.underlying25 (hval 0 25 v0 rfl rfl)
  obtain ⟨x0, hx0, hd0⟩ := open_arg rfl voc_fit h0
  rw [e0] at hx0
  have hg0 := see_voc hx0
  obtain ⟨A0, ca0, B0, cb0, rfl, hV0⟩ := hg0
  obtain ⟨A1, l1, c1, rfl⟩ := okWide_slice Try.underlying38 (hval 1 38 v1 rfl rfl)
  obtain ⟨x1, hx1, hd1⟩ := open_arg rfl ints_fit h1
  have hx1 : See W _ [.slice A1 l1 c1] x1 := hx1
  have hg1 := see_ints hx1
  obtain ⟨B1, k1, e1, ⟨hc1, hC1, hr1⟩⟩ := hg1
  simp only [List.cons.injEq, Value.slice.injEq, and_true] at e1
  obtain ⟨rfl, rfl, rfl⟩ := e1
  obtain ⟨A2, l2, c2, rfl⟩ := okWide_slice Try.underlying38 (hval 2 38 v2 rfl rfl)
  obtain ⟨x2, hx2, hd2⟩ := open_arg rfl ints_fit h2
  have hx2 : See W _ [.slice A2 l2 c2] x2 := hx2
  have hg2 := see_ints hx2
  obtain ⟨B2, k2, e2, ⟨hc2, hC2, hr2⟩⟩ := hg2
  simp only [List.cons.injEq, Value.slice.injEq, and_true] at e2
  obtain ⟨rfl, rfl, rfl⟩ := e2
  exact callsPost laidOut (by kernel_rfl) rfl rfl Try.underlying4 hW' rfl (lawJoins A0 ca0 B0 cb0 (vocOf x0) A1 c1 x1 A2 c2 x2 W hV0 (voc_small hd0 (small3 hk).1 (by omega)) hC1 (Nat.le_trans (ints_small hd1 (small3 hk).2.1) (by omega)) hC2 (Nat.le_trans (ints_small hd2 (small3 hk).2.2) (by omega)))
theorem over : Rows.vocabJoinsUptoRow.holds Try.pinned (Rows.OpenSpec.upto Rows.vocabJoinsSpec) :=
  OpenClaim.holds_of_cond 7 Try.f7 rfl rfl rfl rfl rfl rfl rfl ⟨rfl, rfl, rfl, rfl, rfl⟩ rfl rfl rfl rfl rfl (by kernel_rfl) Try.func7 (by kernel_rfl)
    (of_decide_eq_true (by kernel_rfl)) (by unfold Func.isWrapper; first | (rw [if_pos (by decide +kernel)]; kernel_rfl) | (rw [if_neg (by decide +kernel)]; exact ⟨rfl, rfl⟩))
    (fun os started H enc _ F => lifted os started H enc F)
end Go.Proofs.Ytjdfdahdobikmaa.vocabJoinsUpto
namespace Go.Proofs.Ytjdfdahdobikmaa
theorem vocabJoins_upto_holds : Rows.VocabJoinsUptoSaid := vocabJoinsUpto.over
end Go.Proofs.Ytjdfdahdobikmaa
#print axioms Go.Proofs.Ytjdfdahdobikmaa.vocabJoins_upto_holds
