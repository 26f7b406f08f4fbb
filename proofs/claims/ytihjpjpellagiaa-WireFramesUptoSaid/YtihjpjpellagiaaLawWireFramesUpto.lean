/- WireFramesUpto: frames laid one behind the other, and cut anywhere; where what comes in is small -/
import Derived.Test.YtihjpjpellagiaaRows
import Derived.Test.YtihjpjpellagiaaShut
import Derived.Test.YtihjpjpellagiaaWireH
import Derived.Test.YtihjpjpellagiaaVolF
import Derived.Deep.CondSized
set_option linter.unusedVariables false
namespace Go.Proofs.Ytihjpjpellagiaa.wireFramesUpto
open Go Go.Wk Go.Wk.Ytihjpjpellagiaa Go.RowKit Go.ChangeShapes Go.WideShapes Go.ChangeAt
open Go.ChangeMaps (open_string shut_string)
theorem own : ownKnob Try.prog.godebug = none := by kernel_rfl
theorem laidOut : laidOutB Try.prog = true := by kernel_rfl
set_option maxRecDepth 100000 in
theorem lifted (os : Os) (started : os.Started) (H : Type) (enc : TypeId × Value → H) (F : Stop.Interp) :
    ReturnsInHanded {} Try.checked os 11 .any ((Rows.OpenSpec.upto Rows.wireFramesSpec).pre6 enc Try.prog Try.f11 Rows.wireFramesUptoRow.domain false) (((Rows.OpenSpec.upto Rows.wireFramesSpec).at F).post enc Try.prog Try.f11 false true false false) := by
  refine returnsInHanded_of_cond_sized (C := Try.checked) (s := (Rows.OpenSpec.upto Rows.wireFramesSpec)) (k := Rows.uptoSmall) rfl own started (by kernel_rfl) Try.func11
    (OpenSpec.witness (enc := enc) (C := Try.checked) (s := (Rows.OpenSpec.upto Rows.wireFramesSpec)) (k := Rows.uptoSmall) rfl false ⟨#[], #[.slice none 0 0, .int .i64 0, .int .i64 0], []⟩ 8 (by kernel_rfl) (by kernel_rfl) (by kernel_rfl)
      (x := ([.nil, .lit (.int .i64 0), .lit (.int .i64 0)], [], [])) (by kernel_rfl) rfl (by kernel_rfl)) ?_
  intro W base args ds gs before hval0 hW hcnd hk hsz0 _
  have hsz : (DataW.weightsEach Try.prog (Try.f11.params.toList ++ Rows.wireFramesSpec.plain.varTypes Try.prog) (ds ++ gs)).all (· ≤ reachBytes) = true := hsz0
  have hval : ∀ (j : Nat) t v, Try.f11.params[j]? = some t → args[j]? = some v → Value.okWide Try.prog W .any base t v := hval0
  have hW' := hW
  obtain ⟨p, q, hA0, hV, rfl, hfz, hnd⟩ := hW
  have hA : DataW.TrodAll enc Try.prog W 0 (fun _ => true) true Try.f11.params.toList args.toList ds p := hA0
  rw [Try.params11] at hA hval hsz
  obtain ⟨v0, vs0, d0, ds0, p0, q0, hargs, rfl, rfl, h0, r0⟩ := trodAll_cons hA
  obtain ⟨v1, vs1, d1, ds1, p1, q1, rfl, rfl, rfl, h1, r1⟩ := trodAll_cons r0
  obtain ⟨v2, vs2, d2, ds2, p2, q2, rfl, rfl, rfl, h2, r2⟩ := trodAll_cons r1
  obtain ⟨rfl, rfl, rfl⟩ := trodAll_nil r2
  obtain rfl : args = #[v0, v1, v2] := by cases args; simp_all
  obtain ⟨rfl, rfl⟩ := trodVars_none hV
  obtain ⟨A0, l0, c0, rfl⟩ := okWide_slice Try.underlying71 (hval 0 71 v0 rfl rfl)
  obtain ⟨x0, hx0, hd0⟩ := open_arg rfl strs_fit h0
  have hx0 : See W _ [.slice A0 l0 c0] x0 := hx0
  have hg0 := see_strs hx0
  obtain ⟨B0, k0, e0, hL0, hO0⟩ := hg0
  simp only [List.cons.injEq, Value.slice.injEq, and_true] at e0
  obtain ⟨rfl, rfl, rfl⟩ := e0
  obtain ⟨n1, rfl, rfl, rfl, y1⟩ := open_int Try.underlying3 (hval 1 3 v1 rfl rfl) h1
  have z1 := lit_i64 y1
  obtain ⟨n2, rfl, rfl, rfl, y2⟩ := open_int Try.underlying3 (hval 2 3 v2 rfl rfl) h2
  have z2 := lit_i64 y2
  exact callsPost laidOut (by kernel_rfl) rfl rfl Try.underlying4 hW' rfl (wireFrames A0 c0 _ n1 n2 W hL0 hO0 (Nat.le_trans (strs_small hd0 (small3 hk).1) (by omega)) z1.1 z1.2 z2.1 z2.2)
theorem over : Rows.wireFramesUptoRow.holds Try.pinned (Rows.OpenSpec.upto Rows.wireFramesSpec) :=
  OpenClaim.holds_of_cond 11 Try.f11 rfl rfl rfl rfl rfl rfl rfl ⟨rfl, rfl, rfl, rfl, rfl⟩ rfl rfl rfl rfl rfl (by kernel_rfl) Try.func11 (by kernel_rfl)
    (of_decide_eq_true (by kernel_rfl)) (by unfold Func.isWrapper; first | (rw [if_pos (by decide +kernel)]; kernel_rfl) | (rw [if_neg (by decide +kernel)]; exact ⟨rfl, rfl⟩))
    (fun os started H enc _ F => lifted os started H enc F)
end Go.Proofs.Ytihjpjpellagiaa.wireFramesUpto
namespace Go.Proofs.Ytihjpjpellagiaa
theorem wireFrames_upto_holds : Rows.WireFramesUptoSaid := wireFramesUpto.over
end Go.Proofs.Ytihjpjpellagiaa
#print axioms Go.Proofs.Ytihjpjpellagiaa.wireFrames_upto_holds
