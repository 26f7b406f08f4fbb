/- FileReads: the model of any bytes -/
import Derived.Test.YtdelgnflcfhhkaaRows
import Derived.Test.YtdelgnflcfhhkaaShut
import Derived.Test.YtdelgnflcfhhkaaQL
import Derived.Test.YtdelgnflcfhhkaaFlW
set_option linter.unusedVariables false
namespace Go.Proofs.Ytdelgnflcfhhkaa.fileReads
open Go Go.Wk Go.Wk.Ytdelgnflcfhhkaa Go.RowKit Go.ChangeShapes Go.WideShapes Go.ChangeAt
open Go.ChangeMaps (open_string shut_string)
theorem own : ownKnob Try.prog.godebug = none := by kernel_rfl
theorem laidOut : laidOutB Try.prog = true := by kernel_rfl
set_option maxRecDepth 100000 in
theorem lifted (os : Os) (started : os.Started) (H : Type) (enc : TypeId × Value → H) :
    ReturnsInHanded {} Try.checked os 3 .any (Rows.fileReadsSpec.pre6 enc Try.prog Try.f3 Rows.fileReadsRow.domain false) (Rows.fileReadsSpec.post enc Try.prog Try.f3 false true false false) := by
  refine returnsInHanded_of_change_sized (C := Try.checked) own started (by kernel_rfl) Try.func3
    (ChangeSpec.witness6 (enc := enc) (C := Try.checked) false ⟨#[], #[.string ByteArray.empty], []⟩ 8 (by kernel_rfl) (by kernel_rfl) (by kernel_rfl) (by kernel_rfl)) ?_
  intro W base args ds gs before hval0 hW hcnd hsz0 _
  have hsz : (DataW.weightsEach Try.prog (Try.f3.params.toList ++ Rows.fileReadsSpec.plain.varTypes Try.prog) (ds ++ gs)).all (· ≤ reachBytes) = true := hsz0
  have hval : ∀ (j : Nat) t v, Try.f3.params[j]? = some t → args[j]? = some v → Value.okWide Try.prog W .any base t v := hval0
  have hW' := hW
  obtain ⟨p, q, hA0, hV, rfl, hfz, hnd⟩ := hW
  have hA : DataW.TrodAll enc Try.prog W 0 (fun _ => true) true Try.f3.params.toList args.toList ds p := hA0
  rw [Try.params3] at hA hval hsz
  obtain ⟨v0, vs0, d0, ds0, p0, q0, hargs, rfl, rfl, h0, r0⟩ := trodAll_cons hA
  obtain ⟨rfl, rfl, rfl⟩ := trodAll_nil r0
  obtain rfl : args = #[v0] := by cases args; simp_all
  obtain ⟨rfl, rfl⟩ := trodVars_none hV
  obtain ⟨a0, rfl, rfl, rfl, y0⟩ := open_string Try.underlying9 (hval 0 9 v0 rfl rfl) h0
  have w0 := sized_string hsz (j := 0) (t := 9) rfl rfl
  obtain ⟨s0, rfl⟩ := sOf_ex a0
  exact callsPost laidOut (by kernel_rfl) rfl rfl Try.underlying4 hW' rfl (lawReads s0 W w0)
theorem over : Rows.fileReadsRow.holds Try.pinned (OpenSpec.ofChange Rows.fileReadsSpec) :=
  OpenClaim.holds_of_wide 3 Try.f3 rfl rfl rfl rfl rfl rfl rfl ⟨rfl, rfl, rfl, rfl, rfl⟩ rfl rfl rfl rfl rfl (by kernel_rfl) Try.func3 (by kernel_rfl)
    (of_decide_eq_true (by kernel_rfl)) (by unfold Func.isWrapper; first | (rw [if_pos (by decide +kernel)]; kernel_rfl) | (rw [if_neg (by decide +kernel)]; exact ⟨rfl, rfl⟩))
    (fun os started H enc _ => lifted os started H enc)
end Go.Proofs.Ytdelgnflcfhhkaa.fileReads
namespace Go.Proofs.Ytdelgnflcfhhkaa
theorem fileReads_holds : Rows.FileReadsSaid := fileReads.over
end Go.Proofs.Ytdelgnflcfhhkaa
#print axioms Go.Proofs.Ytdelgnflcfhhkaa.fileReads_holds
