/- VocabCutsUpto: a text by the longest tokens, and by the fewest; where what comes in is small -/
import Derived.Test.YtjdfdahdobikmaaRows
import Derived.Test.YtjdfdahdobikmaaShut
import Derived.Test.YtjdfdahdobikmaaVoV2
import Derived.Test.YtjdfdahdobikmaaVpD
import Derived.Deep.CondSized
set_option linter.unusedVariables false
namespace Go.Proofs.Ytjdfdahdobikmaa.vocabCutsUpto
open Go Go.Wk Go.Wk.Ytjdfdahdobikmaa Go.RowKit Go.ChangeShapes Go.WideShapes Go.ChangeAt
open Go.ChangeMaps (open_string shut_string)
theorem own : ownKnob Try.prog.godebug = none := by kernel_rfl
theorem laidOut : laidOutB Try.prog = true := by kernel_rfl
set_option maxRecDepth 100000 in
theorem lifted (os : Os) (started : os.Started) (H : Type) (enc : TypeId × Value → H) (F : Stop.Interp) :
    ReturnsInHanded {} Try.checked os 11 .any ((Rows.OpenSpec.upto Rows.vocabCutsSpec).pre6 enc Try.prog Try.f11 Rows.vocabCutsUptoRow.domain false) (((Rows.OpenSpec.upto Rows.vocabCutsSpec).at F).post enc Try.prog Try.f11 false true false false) := by
  refine returnsInHanded_of_cond_sized (C := Try.checked) (s := (Rows.OpenSpec.upto Rows.vocabCutsSpec)) (k := Rows.uptoSmall) rfl own started (by kernel_rfl) Try.func11
    (OpenSpec.witness (enc := enc) (C := Try.checked) (s := (Rows.OpenSpec.upto Rows.vocabCutsSpec)) (k := Rows.uptoSmall) rfl false ⟨#[], #[.agg #[.slice none 0 0, .slice none 0 0], .string ByteArray.empty], []⟩ 8 (by kernel_rfl) (by kernel_rfl) (by kernel_rfl)
      (x := ([.agg [.nil, .nil], .lit (.string [])], [], [])) (by kernel_rfl) rfl (by kernel_rfl)) ?_
  intro W base args ds gs before hval0 hW hcnd hk hsz0 _
  have hsz : (DataW.weightsEach Try.prog (Try.f11.params.toList ++ Rows.vocabCutsSpec.plain.varTypes Try.prog) (ds ++ gs)).all (· ≤ reachBytes) = true := hsz0
  have hval : ∀ (j : Nat) t v, Try.f11.params[j]? = some t → args[j]? = some v → Value.okWide Try.prog W .any base t v := hval0
  have hW' := hW
  obtain ⟨p, q, hA0, hV, rfl, hfz, hnd⟩ := hW
  have hA : DataW.TrodAll enc Try.prog W 0 (fun _ => true) true Try.f11.params.toList args.toList ds p := hA0
  rw [Try.params11] at hA hval hsz
  obtain ⟨v0, vs0, d0, ds0, p0, q0, hargs, rfl, rfl, h0, r0⟩ := trodAll_cons hA
  obtain ⟨v1, vs1, d1, ds1, p1, q1, rfl, rfl, rfl, h1, r1⟩ := trodAll_cons r0
  obtain ⟨rfl, rfl, rfl⟩ := trodAll_nil r1
  obtain rfl : args = #[v0, v1] := by cases args; simp_all
  obtain ⟨rfl, rfl⟩ := trodVars_none hV
  obtain ⟨l0, rfl, e0⟩ := arg_agg Try.underlying25 (hval 0 25 v0 rfl rfl)
  obtain ⟨x0, hx0, hd0⟩ := open_arg rfl voc_fit h0
  rw [e0] at hx0
  have hg0 := see_voc2 hx0
  obtain ⟨A0, ca0, B0, cb0, rfl, hV0, hca0, hcb0⟩ := hg0
  obtain ⟨a1, rfl, rfl, rfl, y1⟩ := open_string Try.underlying9 (hval 1 9 v1 rfl rfl) h1
  have w1 := sized_string hsz (j := 1) (t := 9) rfl rfl
  obtain ⟨s1, rfl⟩ := sOf_ex a1
  exact callsPost laidOut (by kernel_rfl) rfl rfl Try.underlying4 hW' rfl (lawCuts A0 ca0 B0 cb0 (vocOf x0) s1 W hV0 (voc_small hd0 (small2 hk).1 (by omega)) hca0 hcb0 (Nat.le_trans (str_small (small2 hk).2) (by omega)))
theorem over : Rows.vocabCutsUptoRow.holds Try.pinned (Rows.OpenSpec.upto Rows.vocabCutsSpec) :=
  OpenClaim.holds_of_cond 11 Try.f11 rfl rfl rfl rfl rfl rfl rfl ⟨rfl, rfl, rfl, rfl, rfl⟩ rfl rfl rfl rfl rfl (by kernel_rfl) Try.func11 (by kernel_rfl)
    (of_decide_eq_true (by kernel_rfl)) (by unfold Func.isWrapper; first | (rw [if_pos (by decide +kernel)]; kernel_rfl) | (rw [if_neg (by decide +kernel)]; exact ⟨rfl, rfl⟩))
    (fun os started H enc _ F => lifted os started H enc F)
end Go.Proofs.Ytjdfdahdobikmaa.vocabCutsUpto
namespace Go.Proofs.Ytjdfdahdobikmaa
theorem vocabCuts_upto_holds : Rows.VocabCutsUptoSaid := vocabCutsUpto.over
end Go.Proofs.Ytjdfdahdobikmaa
#print axioms Go.Proofs.Ytjdfdahdobikmaa.vocabCuts_upto_holds
