/- WireMemoryUpto: rows are the caller's own; where what comes in is small -/
import Derived.Test.YtihjpjpellagiaaRows
import Derived.Test.YtihjpjpellagiaaShut
import Derived.Test.YtihjpjpellagiaaWireMe
import Derived.Test.YtihjpjpellagiaaVolM
import Derived.Deep.CondSized
set_option linter.unusedVariables false
namespace Go.Proofs.Ytihjpjpellagiaa.wireMemoryUpto
open Go Go.Wk Go.Wk.Ytihjpjpellagiaa Go.RowKit Go.ChangeShapes Go.WideShapes Go.ChangeAt
open Go.ChangeMaps (open_string shut_string)
theorem own : ownKnob Try.prog.godebug = none := by kernel_rfl
theorem laidOut : laidOutB Try.prog = true := by kernel_rfl
set_option maxRecDepth 100000 in
theorem lifted (os : Os) (started : os.Started) (H : Type) (enc : TypeId × Value → H) (F : Stop.Interp) :
    ReturnsInHanded {} Try.checked os 5 .any ((Rows.OpenSpec.upto Rows.wireMemorySpec).pre6 enc Try.prog Try.f5 Rows.wireMemoryUptoRow.domain false) (((Rows.OpenSpec.upto Rows.wireMemorySpec).at F).post enc Try.prog Try.f5 false true false false) := by
  refine returnsInHanded_of_cond_sized (C := Try.checked) (s := (Rows.OpenSpec.upto Rows.wireMemorySpec)) (k := Rows.uptoSmall) rfl own started (by kernel_rfl) Try.func5
    (OpenSpec.witness (enc := enc) (C := Try.checked) (s := (Rows.OpenSpec.upto Rows.wireMemorySpec)) (k := Rows.uptoSmall) rfl false ⟨#[], #[.slice none 0 0, .string ByteArray.empty], []⟩ 8 (by kernel_rfl) (by kernel_rfl) (by kernel_rfl)
      (x := ([.nil, .lit (.string [])], [], [])) (by kernel_rfl) rfl (by kernel_rfl)) ?_
  intro W base args ds gs before hval0 hW hcnd hk hsz0 _
  have hsz : (DataW.weightsEach Try.prog (Try.f5.params.toList ++ Rows.wireMemorySpec.plain.varTypes Try.prog) (ds ++ gs)).all (· ≤ reachBytes) = true := hsz0
  have hval : ∀ (j : Nat) t v, Try.f5.params[j]? = some t → args[j]? = some v → Value.okWide Try.prog W .any base t v := hval0
  have hW' := hW
  obtain ⟨p, q, hA0, hV, rfl, hfz, hnd⟩ := hW
  have hA : DataW.TrodAll enc Try.prog W 0 (fun _ => true) true Try.f5.params.toList args.toList ds p := hA0
  rw [Try.params5] at hA hval hsz
  obtain ⟨v0, vs0, d0, ds0, p0, q0, hargs, rfl, rfl, h0, r0⟩ := trodAll_cons hA
  obtain ⟨v1, vs1, d1, ds1, p1, q1, rfl, rfl, rfl, h1, r1⟩ := trodAll_cons r0
  obtain ⟨rfl, rfl, rfl⟩ := trodAll_nil r1
  obtain rfl : args = #[v0, v1] := by cases args; simp_all
  obtain ⟨rfl, rfl⟩ := trodVars_none hV
  obtain ⟨A0, l0, c0, rfl⟩ := okWide_slice Try.underlying28 (hval 0 28 v0 rfl rfl)
  obtain ⟨x0, hx0, hd0⟩ := open_arg rfl i8s_fit h0
  have hx0 : See W _ [.slice A0 l0 c0] x0 := hx0
  have hg0 := see_i8s hx0
  obtain ⟨B0, k0, e0, _, hO0⟩ := hg0
  simp only [List.cons.injEq, Value.slice.injEq, and_true] at e0
  obtain ⟨rfl, rfl, rfl⟩ := e0
  obtain ⟨a1, rfl, rfl, rfl, y1⟩ := open_string Try.underlying9 (hval 1 9 v1 rfl rfl) h1
  have w1 := sized_string hsz (j := 1) (t := 9) rfl rfl
  obtain ⟨s1, rfl⟩ := sOf_ex a1
  exact callsPost laidOut (by kernel_rfl) rfl rfl Try.underlying4 hW' rfl (wireMemory A0 c0 _ s1 W hO0 (Nat.le_trans (i8s_small hd0 (small2 hk).1) (by omega)) (Nat.le_trans (str_small (small2 hk).2) (by omega)))
theorem over : Rows.wireMemoryUptoRow.holds Try.pinned (Rows.OpenSpec.upto Rows.wireMemorySpec) :=
  OpenClaim.holds_of_cond 5 Try.f5 rfl rfl rfl rfl rfl rfl rfl ⟨rfl, rfl, rfl, rfl, rfl⟩ rfl rfl rfl rfl rfl (by kernel_rfl) Try.func5 (by kernel_rfl)
    (of_decide_eq_true (by kernel_rfl)) (by unfold Func.isWrapper; first | (rw [if_pos (by decide +kernel)]; kernel_rfl) | (rw [if_neg (by decide +kernel)]; exact ⟨rfl, rfl⟩))
    (fun os started H enc _ F => lifted os started H enc F)
end Go.Proofs.Ytihjpjpellagiaa.wireMemoryUpto
namespace Go.Proofs.Ytihjpjpellagiaa
theorem wireMemory_upto_holds : Rows.WireMemoryUptoSaid := wireMemoryUpto.over
end Go.Proofs.Ytihjpjpellagiaa
#print axioms Go.Proofs.Ytihjpjpellagiaa.wireMemory_upto_holds
