/-
  Chapter 17: law FileWrites.
-/
import Derived.Test.YtdelgnflcfhhkaaFlP
set_option linter.unusedVariables false
namespace Go.Wk.Ytdelgnflcfhhkaa
open Go Go.Wk Go.Proofs

set_option maxHeartbeats 8000000 in
set_option maxRecDepth 10000 in
theorem lawWrites (m : LM) (w : World) (hm : m.At w) (hl : m.Sm) (hcap : m.Cap) :
    CallsF Try.prog 8 [lmV m] w fun r w' => r = .bool true ∧ Fr no w w' := by
  refine callsF Try.func8 rfl rfl (by decide) rfl ?_
  refine sA [] rfl ?_
  refine ev_box rfl rfl rfl fun p w1 hp kp f1 => ?_
  have kp : Blk w1 p (lmC m) 31 := kp
  refine sA [] rfl ?_; refine ev_loadAggB rfl rfl tabOk rfl rfl ‹_› (by rfl) ?_
  refine ev_call rfl rfl rfl (refOf m w1 (hm.fr0 f1) hl) ?_
  rintro r w2 ⟨t, rfl, htp, hO⟩
  have htl := Sm_p htp hl
  have htc := hO.cap
  have kp2 := kp.fr0 hO.fr
  have hF2 := f1.tr hO.fr
  skip
  refine ev_alloc rfl rfl inf41 (fun q w3 hq kq f3 => ?_)
  refine ev_storeAgg tabOk rfl rfl rfl rfl rfl rfl kq rfl (fun w4 kq f4 => ?_)
  have h24 : Fr no w2 w4 := f3.trans f4 fun z hz e => by have : z = q := e; omega
  have kq : Blk w4 q (lmC t) 41 := kq
  have kp4 := kp2.fr0 h24
  have hF4 := hF2.tr h24
  have ht4 := hO.At.fr0 h24
  clear kp kp2
  refine sA [] rfl ?_; refine ev_loadAggB rfl rfl tabOk rfl rfl ‹_› (by rfl) ?_
  refine ev_call rfl rfl rfl (wEncode m w4 (hm.fr0 hF4) hl hcap) ?_
  rintro r w5 ⟨rfl, f5⟩
  have kp5 := kp4.fr0 f5
  have kq5 := kq.fr0 f5
  have hF5 := hF4.tr f5
  have ht5 := ht4.fr0 f5
  clear kp4 kq
  refine sA [] rfl ?_; refine ev_loadAggB rfl rfl tabOk rfl rfl ‹_› (by rfl) ?_
  refine ev_call rfl rfl rfl (refEncode t w5 ht5 htl htc) ?_
  rintro r w6 ⟨rfl, f6⟩
  rw [htp]
  have kp6 := kp5.fr0 f6
  have kq6 := kq5.fr0 f6
  have hF6 := hF5.tr f6
  have ht6 := ht5.fr0 f6
  clear kp5 kq5
  have hsz := fun w hw => wSize m w hw hl hcap
  obtain ⟨⟨X, e⟩, hX⟩ : ∃ z, z = encA m.p := ⟨_, rfl⟩
  rw [← hX] at hsz ⊢
  refine sA [] rfl ?_
  refine mixC_in (fun w' => Fr no w6 w') mixed (fun v g => ?_)
  refine mix1 rfl rfl ?_ g
  refine ev_call rfl rfl rfl (lAwake17 v) ?_
  rintro r v1 ⟨rfl, g1⟩
  have g := g.tr g1
  refine mix_op ?_
  refine mix_run 4 tabOk rfl (by kernel_rfl) (by kernel_rfl) ?_
  rw [show decide ((X, e).1 = (X, e).1) = true from decide_eq_true rfl]
  refine mix_run 5 tabOk rfl (by kernel_rfl) (by kernel_rfl) ?_
  rw [show decide ((X, e).2 = (X, e).2) = true from decide_eq_true rfl]
  refine mA rfl (by kernel_rfl) (by kernel_rfl) ?_
  refine m_loadAgg 12 rfl rfl rfl (by kernel_rfl) (by kernel_rfl) rfl rfl tabOk rfl rfl rfl (fun w' h => Cs.of_blk (kp6.fr0 h)) ?_
  refine mix1 rfl rfl ?_ g
  refine ev_call rfl rfl rfl (hsz v1 (hm.fr0 (hF6.tr g))) ?_
  rintro r v2 ⟨rfl, g2⟩
  have g := g.tr g2
  refine mix_op ?_
  refine mix_run 1 tabOk rfl (by kernel_rfl) (by kernel_rfl) ?_
  rw [show decide (((X, e).1.length : Int) = ((X, e).1.length : Int)) = true from decide_eq_true rfl]
  refine mA rfl (by kernel_rfl) (by kernel_rfl) ?_
  refine m_loadAgg 19 rfl rfl rfl (by kernel_rfl) (by kernel_rfl) rfl rfl tabOk rfl rfl rfl (fun w' h => Cs.of_blk (kp6.fr0 h)) ?_
  refine m_loadAgg 21 rfl rfl rfl (by kernel_rfl) (by kernel_rfl) rfl rfl tabOk rfl rfl rfl (fun w' h => Cs.of_blk (kq6.fr0 h)) ?_
  refine mix1 rfl rfl ?_ g
  refine ev_call rfl rfl rfl (refOf m v2 (hm.fr0 (hF6.tr g)) hl) ?_
  rintro r v3 ⟨t3, rfl, htp3, hOt3⟩
  have g := g.tr hOt3.fr
  refine mix_op ?_
  refine mix1 rfl rfl ?_ g
  refine ev_call rfl rfl rfl (refSameM t3 t v3 hOt3.At (ht6.fr0 g) (Sm_p htp3 hl) htl) ?_
  rintro r v4 ⟨rfl, g4⟩
  rw [eqB_t (show t3.p = t.p by rw [htp3, htp])]
  have g := g.tr g4
  refine mix_op ?_
  refine mA rfl (by kernel_rfl) (by kernel_rfl) ?_
  refine mix_out rfl ?_ g
  refine sA [] rfl ?_
  exact ret1 (.inr rfl) rfl rfl ⟨rfl, hF6.tr g⟩
end Go.Wk.Ytdelgnflcfhhkaa
