/- FileMergesUpto: adapters merged in, and the model that was handed in stays; where what comes in is small -/
import Derived.Test.YtdelgnflcfhhkaaRows
import Derived.Test.YtdelgnflcfhhkaaShut
import Derived.Test.YtdelgnflcfhhkaaQM
import Derived.Test.YtdelgnflcfhhkaaFmH
import Derived.Deep.CondSized
set_option linter.unusedVariables false
namespace Go.Proofs.Ytdelgnflcfhhkaa.fileMergesUpto
open Go Go.Wk Go.Wk.Ytdelgnflcfhhkaa Go.RowKit Go.ChangeShapes Go.WideShapes Go.ChangeAt
open Go.ChangeMaps (open_string shut_string)
theorem own : ownKnob Try.prog.godebug = none := by kernel_rfl
theorem laidOut : laidOutB Try.prog = true := by kernel_rfl
set_option maxRecDepth 100000 in
theorem lifted (os : Os) (started : os.Started) (H : Type) (enc : TypeId × Value → H) (F : Stop.Interp) :
    ReturnsInHanded {} Try.checked os 10 .any ((Rows.OpenSpec.upto Rows.fileMergesSpec).pre6 enc Try.prog Try.f10 Rows.fileMergesUptoRow.domain false) (((Rows.OpenSpec.upto Rows.fileMergesSpec).at F).post enc Try.prog Try.f10 false true false false) := by
  refine returnsInHanded_of_cond_sized (C := Try.checked) (s := (Rows.OpenSpec.upto Rows.fileMergesSpec)) (k := Rows.uptoSmall) rfl own started (by kernel_rfl) Try.func10
    (OpenSpec.witness (enc := enc) (C := Try.checked) (s := (Rows.OpenSpec.upto Rows.fileMergesSpec)) (k := Rows.uptoSmall) rfl false ⟨#[], #[.agg #[.int .i64 0, .int .i64 0, .int .i64 0, .int .i64 0, .int .i64 0, .int .i64 0, .slice none 0 0, .slice none 0 0, .slice none 0 0, .int .i64 0, .slice none 0 0, .slice none 0 0, .slice none 0 0, .slice none 0 0, .slice none 0 0, .slice none 0 0, .int .i64 0], .slice none 0 0], []⟩ 8 (by kernel_rfl) (by kernel_rfl) (by kernel_rfl)
      (x := ([.agg [.agg [.lit (.int .i64 0), .lit (.int .i64 0), .lit (.int .i64 0), .lit (.int .i64 0), .lit (.int .i64 0), .lit (.int .i64 0)], .agg [.nil, .nil], .nil, .lit (.int .i64 0), .nil, .nil, .nil, .nil, .nil, .nil, .lit (.int .i64 0)], .nil], [], [])) (by kernel_rfl) rfl (by kernel_rfl)) ?_
  intro W base args ds gs before hval0 hW hcnd hk hsz0 _
  have hsz : (DataW.weightsEach Try.prog (Try.f10.params.toList ++ Rows.fileMergesSpec.plain.varTypes Try.prog) (ds ++ gs)).all (· ≤ reachBytes) = true := hsz0
  have hval : ∀ (j : Nat) t v, Try.f10.params[j]? = some t → args[j]? = some v → Value.okWide Try.prog W .any base t v := hval0
  have hW' := hW
  obtain ⟨p, q, hA0, hV, rfl, hfz, hnd⟩ := hW
  have hA : DataW.TrodAll enc Try.prog W 0 (fun _ => true) true Try.f10.params.toList args.toList ds p := hA0
  rw [Try.params10] at hA hval hsz
  obtain ⟨v0, vs0, d0, ds0, p0, q0, hargs, rfl, rfl, h0, r0⟩ := trodAll_cons hA
  obtain ⟨v1, vs1, d1, ds1, p1, q1, rfl, rfl, rfl, h1, r1⟩ := trodAll_cons r0
  obtain ⟨rfl, rfl, rfl⟩ := trodAll_nil r1
  obtain rfl : args = #[v0, v1] := by cases args; simp_all
  obtain ⟨rfl, rfl⟩ := trodVars_none hV
  obtain ⟨l0, rfl, e0⟩ := arg_agg Try.underlying31 (hval 0 31 v0 rfl rfl)
  obtain ⟨x0, hx0, hd0⟩ := open_arg rfl md_fit h0
  rw [e0] at hx0
  have hg0 := see_md hx0
  obtain ⟨m0, rfl, qA0, qR0, qV0, qb0, qx0⟩ := hg0
  obtain ⟨A1, l1, c1, rfl⟩ := okWide_slice Try.underlying67 (hval 1 67 v1 rfl rfl)
  obtain ⟨x1, hx1, hd1⟩ := open_arg rfl ads_fit h1
  have hx1 : See W _ [.slice A1 l1 c1] x1 := hx1
  have hg1 := see_ads hx1
  obtain ⟨B1, k1, e1, ⟨ad1, hal1, hac1, haa1⟩⟩ := hg1
  simp only [List.cons.injEq, Value.slice.injEq, and_true] at e1
  obtain ⟨rfl, rfl, rfl⟩ := e1
  exact callsPost laidOut (by kernel_rfl) rfl rfl Try.underlying4 hW' rfl (lawMerges m0 A1 c1 _ ad1 hal1 W qA0 (md_small hd0 (small2 hk).1 (Nat.le_refl _) qV0 qb0 qx0) qR0.cap hac1 haa1 (Nat.le_trans (ads_small hd1 (small2 hk).2) (by omega)))
theorem over : Rows.fileMergesUptoRow.holds Try.pinned (Rows.OpenSpec.upto Rows.fileMergesSpec) :=
  OpenClaim.holds_of_cond 10 Try.f10 rfl rfl rfl rfl rfl rfl rfl ⟨rfl, rfl, rfl, rfl, rfl⟩ rfl rfl rfl rfl rfl (by kernel_rfl) Try.func10 (by kernel_rfl)
    (of_decide_eq_true (by kernel_rfl)) (by unfold Func.isWrapper; first | (rw [if_pos (by decide +kernel)]; kernel_rfl) | (rw [if_neg (by decide +kernel)]; exact ⟨rfl, rfl⟩))
    (fun os started H enc _ F => lifted os started H enc F)
end Go.Proofs.Ytdelgnflcfhhkaa.fileMergesUpto
namespace Go.Proofs.Ytdelgnflcfhhkaa
theorem fileMerges_upto_holds : Rows.FileMergesUptoSaid := fileMergesUpto.over
end Go.Proofs.Ytdelgnflcfhhkaa
#print axioms Go.Proofs.Ytdelgnflcfhhkaa.fileMerges_upto_holds
