/- FileTellsUpto: a file with one byte else, a beginning of one, one with bytes behind; where what comes in is small -/
import Derived.Test.YtdelgnflcfhhkaaRows
import Derived.Test.YtdelgnflcfhhkaaShut
import Derived.Test.YtdelgnflcfhhkaaQL
import Derived.Test.YtdelgnflcfhhkaaFlS
import Derived.Deep.CondSized
set_option linter.unusedVariables false
namespace Go.Proofs.Ytdelgnflcfhhkaa.fileTellsUpto
open Go Go.Wk Go.Wk.Ytdelgnflcfhhkaa Go.RowKit Go.ChangeShapes Go.WideShapes Go.ChangeAt
open Go.ChangeMaps (open_string shut_string)
theorem own : ownKnob Try.prog.godebug = none := by kernel_rfl
theorem laidOut : laidOutB Try.prog = true := by kernel_rfl
set_option maxRecDepth 100000 in
theorem lifted (os : Os) (started : os.Started) (H : Type) (enc : TypeId × Value → H) (F : Stop.Interp) :
    ReturnsInHanded {} Try.checked os 6 .any ((Rows.OpenSpec.upto Rows.fileTellsSpec).pre6 enc Try.prog Try.f6 Rows.fileTellsUptoRow.domain false) (((Rows.OpenSpec.upto Rows.fileTellsSpec).at F).post enc Try.prog Try.f6 false true false false) := by
  refine returnsInHanded_of_cond_sized (C := Try.checked) (s := (Rows.OpenSpec.upto Rows.fileTellsSpec)) (k := Rows.uptoSmall) rfl own started (by kernel_rfl) Try.func6
    (OpenSpec.witness (enc := enc) (C := Try.checked) (s := (Rows.OpenSpec.upto Rows.fileTellsSpec)) (k := Rows.uptoSmall) rfl false ⟨#[], #[.agg #[.int .i64 0, .int .i64 0, .int .i64 0, .int .i64 0, .int .i64 0, .int .i64 0, .slice none 0 0, .slice none 0 0, .slice none 0 0, .int .i64 0, .slice none 0 0, .slice none 0 0, .slice none 0 0, .slice none 0 0, .slice none 0 0, .slice none 0 0, .int .i64 0], .int .i64 0, .int .u8 0], []⟩ 8 (by kernel_rfl) (by kernel_rfl) (by kernel_rfl)
      (x := ([.agg [.agg [.lit (.int .i64 0), .lit (.int .i64 0), .lit (.int .i64 0), .lit (.int .i64 0), .lit (.int .i64 0), .lit (.int .i64 0)], .agg [.nil, .nil], .nil, .lit (.int .i64 0), .nil, .nil, .nil, .nil, .nil, .nil, .lit (.int .i64 0)], .lit (.int .i64 0), .lit (.int .u8 0)], [], [])) (by kernel_rfl) rfl (by kernel_rfl)) ?_
  intro W base args ds gs before hval0 hW hcnd hk hsz0 _
  have hsz : (DataW.weightsEach Try.prog (Try.f6.params.toList ++ Rows.fileTellsSpec.plain.varTypes Try.prog) (ds ++ gs)).all (· ≤ reachBytes) = true := hsz0
  have hval : ∀ (j : Nat) t v, Try.f6.params[j]? = some t → args[j]? = some v → Value.okWide Try.prog W .any base t v := hval0
  have hW' := hW
  obtain ⟨p, q, hA0, hV, rfl, hfz, hnd⟩ := hW
  have hA : DataW.TrodAll enc Try.prog W 0 (fun _ => true) true Try.f6.params.toList args.toList ds p := hA0
  rw [Try.params6] at hA hval hsz
  obtain ⟨v0, vs0, d0, ds0, p0, q0, hargs, rfl, rfl, h0, r0⟩ := trodAll_cons hA
  obtain ⟨v1, vs1, d1, ds1, p1, q1, rfl, rfl, rfl, h1, r1⟩ := trodAll_cons r0
  obtain ⟨v2, vs2, d2, ds2, p2, q2, rfl, rfl, rfl, h2, r2⟩ := trodAll_cons r1
  obtain ⟨rfl, rfl, rfl⟩ := trodAll_nil r2
  obtain rfl : args = #[v0, v1, v2] := by cases args; simp_all
  obtain ⟨rfl, rfl⟩ := trodVars_none hV
  obtain ⟨l0, rfl, e0⟩ := arg_agg Try.underlying31 (hval 0 31 v0 rfl rfl)
  obtain ⟨x0, hx0, hd0⟩ := open_arg rfl md_fit h0
  rw [e0] at hx0
  have hg0 := see_md hx0
  obtain ⟨m0, rfl, qA0, qR0, qV0, qb0, qx0⟩ := hg0
  obtain ⟨n1, rfl, rfl, rfl, y1⟩ := open_int Try.underlying3 (hval 1 3 v1 rfl rfl) h1
  have z1 := lit_i64 y1
  obtain ⟨n2, rfl, rfl, rfl, y2⟩ := open_int Try.underlying5 (hval 2 5 v2 rfl rfl) h2
  obtain ⟨b2, rfl⟩ := byte_ex y2
  exact callsPost laidOut (by kernel_rfl) rfl rfl Try.underlying4 hW' rfl (lawTells m0 n1 b2 W qA0 (md_small hd0 (small3 hk).1 (Nat.le_refl _) qV0 qb0 qx0) qR0.cap)
theorem over : Rows.fileTellsUptoRow.holds Try.pinned (Rows.OpenSpec.upto Rows.fileTellsSpec) :=
  OpenClaim.holds_of_cond 6 Try.f6 rfl rfl rfl rfl rfl rfl rfl ⟨rfl, rfl, rfl, rfl, rfl⟩ rfl rfl rfl rfl rfl (by kernel_rfl) Try.func6 (by kernel_rfl)
    (of_decide_eq_true (by kernel_rfl)) (by unfold Func.isWrapper; first | (rw [if_pos (by decide +kernel)]; kernel_rfl) | (rw [if_neg (by decide +kernel)]; exact ⟨rfl, rfl⟩))
    (fun os started H enc _ F => lifted os started H enc F)
end Go.Proofs.Ytdelgnflcfhhkaa.fileTellsUpto
namespace Go.Proofs.Ytdelgnflcfhhkaa
theorem fileTells_upto_holds : Rows.FileTellsUptoSaid := fileTellsUpto.over
end Go.Proofs.Ytdelgnflcfhhkaa
#print axioms Go.Proofs.Ytdelgnflcfhhkaa.fileTells_upto_holds
