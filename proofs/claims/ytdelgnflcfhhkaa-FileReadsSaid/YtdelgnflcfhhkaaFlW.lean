/-
  Chapter 17: laws FileReads, FileAgain.
-/
import Derived.Test.YtdelgnflcfhhkaaFlV
import Derived.Test.YtdelgnflcfhhkaaFlR
set_option linter.unusedVariables false
namespace Go.Wk.Ytdelgnflcfhhkaa
open Go Go.Wk Go.Proofs

theorem zM_smq : SmQ zM.p := ⟨Nat.zero_le _, (fun t ht => by cases ht), Nat.zero_le _, Nat.zero_le _, ⟨Nat.zero_le _, Nat.zero_le _, Nat.zero_le _, Nat.zero_le _, Nat.zero_le _, Nat.zero_le _⟩, fun b hb => by cases hb⟩
theorem decT_smq (t : List UInt8) : SmQ (decT t).1 := by
  unfold decT
  split
  · rename_i h1
    split
    · exact decT_e h1
    · exact zM_smq
  · exact zM_smq
theorem decA_smq (s : List UInt8) : SmQ (decA s).1 := by
  unfold decA
  split
  · exact zM_smq
  split
  · exact zM_smq
  split
  · exact zM_smq
  exact decT_smq _
set_option maxHeartbeats 8000000 in
set_option maxRecDepth 10000 in
theorem lawReads (s : List UInt8) (w : World) (hs : s.length ≤ 140737488351232) :
    CallsF Try.prog 3 [.string (sOf s)] w fun r w' => r = .bool true ∧ Fr no w w' := by
  have hsq := decA_smq s
  refine callsF Try.func3 rfl rfl (by decide) rfl ?_
  refine sA [] rfl ?_
  refine ev_call rfl rfl rfl (wDecode s w (by omega)) ?_
  rintro r w1 ⟨a, rfl, hap, hO⟩
  have hrd := refDecode s
  obtain ⟨⟨Y, e⟩, hY⟩ : ∃ z, z = decA s := ⟨_, rfl⟩
  rw [← hY] at hsq hap hrd ⊢
  have hap : a.p = Y := hap
  have hal : a.Sm := sm_q (by rw [hap]; exact hsq)
  refine sA [] rfl ?_
  refine ev_alloc rfl rfl inf31 (fun p w2 hp kp f2 => ?_)
  refine ev_storeAgg tabOk rfl rfl rfl rfl rfl rfl kp rfl (fun w3 kp3 f3 => ?_)
  have h13 : Fr no w1 w3 := f2.trans f3 fun z hz e => by have : z = p := e; omega
  have kp : Blk w3 p (lmC a) 31 := kp3
  have ha := hO.At.fr0 h13
  have hF := hO.fr.tr h13
  clear kp3
  refine sA [] rfl ?_
  refine ev_call rfl rfl rfl (hrd w3 (by omega)) ?_
  rintro r w4 ⟨b, rfl, hbp, hb, f4⟩
  have hbp : b.p = Y := hbp
  have hbl : b.Sm := sm_q (by rw [hbp]; exact hsq)
  have kp := kp.fr0 f4
  have ha := ha.fr0 f4
  have hF := hF.tr f4
  refine sA [] rfl ?_
  refine ev_alloc rfl rfl inf41 (fun q w5 hq kq f5 => ?_)
  refine ev_storeAgg tabOk rfl rfl rfl rfl rfl rfl kq rfl (fun w6 kq6 f6 => ?_)
  have h46 : Fr no w4 w6 := f5.trans f6 fun z hz e => by have : z = q := e; omega
  have kq : Blk w6 q (lmC b) 41 := kq6
  have kp := kp.fr0 h46
  have ha := ha.fr0 h46
  have hb := hb.fr0 h46
  have hF := hF.tr h46
  clear kq6
  refine sA [] rfl ?_
  refine mixC_in (fun w' => Fr no w6 w') mixed (fun v g => ?_)
  refine mix1 rfl rfl ?_ g
  refine ev_call rfl rfl rfl (lAwake17 v) ?_
  rintro r v1 ⟨rfl, g1⟩
  have g := g.tr g1
  refine mix_op ?_
  refine mA rfl (by kernel_rfl) (by kernel_rfl) ?_
  refine m_loadAgg 2 rfl rfl rfl (by kernel_rfl) (by kernel_rfl) rfl rfl tabOk rfl rfl rfl (fun w' h => Cs.of_blk (kp.fr0 h)) ?_
  refine m_loadAgg 4 rfl rfl rfl (by kernel_rfl) (by kernel_rfl) rfl rfl tabOk rfl rfl rfl (fun w' h => Cs.of_blk (kq.fr0 h)) ?_
  refine mix1 rfl rfl ?_ g
  refine ev_call rfl rfl rfl (refOf a v1 (ha.fr0 g) hal) ?_
  rintro r v2 ⟨t, rfl, htp, hOt⟩
  have g := g.tr hOt.fr
  refine mix_op ?_
  refine mix1 rfl rfl ?_ g
  refine ev_call rfl rfl rfl (refSameM t b v2 hOt.At (hb.fr0 g) (Sm_p htp hal) hbl) ?_
  rintro r v3 ⟨rfl, g3⟩
  rw [eqB_t (show t.p = b.p by rw [htp, hap, hbp])]
  have g := g.tr g3
  refine mix_op ?_
  refine mA rfl (by kernel_rfl) (by kernel_rfl) ?_
  refine mix_out rfl ?_ g
  refine sA [] rfl ?_
  exact ret1 (.inr rfl) rfl rfl ⟨by rw [show decide ((Y, e).2 = (Y, e).2) = true from decide_eq_true rfl], hF.tr g⟩
set_option maxHeartbeats 8000000 in
set_option maxRecDepth 10000 in
theorem lawAgain (s : List UInt8) (w : World) (hs : s.length ≤ 140737488351232) :
    CallsF Try.prog 5 [.string (sOf s)] w fun r w' => r = .bool true ∧ Fr no w w' := by
  have hsq := decA_smq s
  have hinv := @decA_inv s
  refine callsF Try.func5 rfl rfl (by decide) rfl ?_
  refine sA [] rfl ?_
  refine ev_call rfl rfl rfl (wDecode s w (by omega)) ?_
  rintro r w1 ⟨a, rfl, hap, hO⟩
  have hrd := refDecode s
  obtain ⟨⟨Y, e⟩, hY⟩ : ∃ z, z = decA s := ⟨_, rfl⟩
  rw [← hY] at hsq hap hrd hinv ⊢
  have hap : a.p = Y := hap
  have hal : a.Sm := sm_q (by rw [hap]; exact hsq)
  refine sA [] rfl ?_
  refine ev_alloc rfl rfl inf31 (fun p w2 hp kp f2 => ?_)
  refine ev_storeAgg tabOk rfl rfl rfl rfl rfl rfl kp rfl (fun w3 kp3 f3 => ?_)
  have h13 : Fr no w1 w3 := f2.trans f3 fun z hz e => by have : z = p := e; omega
  have kp : Blk w3 p (lmC a) 31 := kp3
  have ha := hO.At.fr0 h13
  have hF := hO.fr.tr h13
  clear kp3
  refine sC [] rfl ?_; refine sC [] rfl ?_
  refine ev_condD rfl (fun c => ?_) (fun c => ?_)
  · refine sA [] rfl ?_
    refine ev_call rfl rfl rfl (hrd w3 (by omega)) ?_
    rintro r w4 ⟨b, rfl, hbp, hb, f4⟩
    have hF := hF.tr f4
    refine sA [] rfl ?_
    refine ev_alloc rfl rfl inf41 (fun q w5 hq kq f5 => ?_)
    refine ev_storeAgg tabOk rfl rfl rfl rfl rfl rfl kq rfl (fun w6 kq6 f6 => ?_)
    have h46 : Fr no w4 w6 := f5.trans f6 fun z hz e => by have : z = q := e; omega
    have hF := hF.tr h46
    refine sA [] rfl ?_
    refine ev_call rfl rfl rfl (lAwake17 w6) ?_
    rintro r w7 ⟨rfl, f7⟩
    refine sA [] rfl ?_
    exact ret1 (.inr rfl) rfl rfl ⟨by rw [show decide ((Y, e).2 = (Y, e).2) = true from decide_eq_true rfl], hF.tr f7⟩
  have he : e = 0 := by simpa using c
  subst he
  obtain ⟨m0, h1, hv, hsf, _⟩ := hinv rfl
  obtain rfl : Y = m0 := congrArg Prod.fst h1
  refine sA [] rfl ?_; refine ev_loadAggB rfl rfl tabOk rfl rfl ‹_› (by rfl) ?_
  refine ev_call rfl rfl rfl (refOf a w3 ha hal) ?_
  rintro r w4 ⟨t, rfl, htp, hOt⟩
  have htl := Sm_p htp hal
  skip
  refine ev_call rfl rfl rfl (refValid t w4 hOt.At htl hOt.cap) ?_
  rintro r w5 ⟨rfl, f5⟩
  rw [htp, hap]
  have hF5 := (hF.tr hOt.fr).tr f5
  have kp5 := (kp.fr0 hOt.fr).fr0 f5
  have ha5 := (ha.fr0 hOt.fr).fr0 f5
  have hcap := hO.cap
  have hea : encA Y = (s, 0) := by unfold encA; rw [if_pos hv, ← hsf]
  obtain ⟨b, hb⟩ : ∃ b, b = validQ Y := ⟨_, rfl⟩
  rw [← hb] at hv ⊢
  refine sA [] rfl ?_; refine ev_loadAggB rfl rfl tabOk rfl rfl ‹_› (by rfl) ?_
  refine ev_call rfl rfl rfl (wEncode a w5 ha5 hal hcap) ?_
  rintro r w6 ⟨rfl, f6⟩
  rw [hap, hea]
  have hF6 := hF5.tr f6
  refine sA [] rfl ?_
  refine ev_call rfl rfl rfl (lAwake17 w6) ?_
  rintro r w7 ⟨rfl, f7⟩
  refine sC [] rfl ?_; refine sD [] rfl ?_
  rw [show decide (b.2.2 = 0) = true from decide_eq_true hv]
  refine sA [] rfl ?_
  rw [show decide ((s, (0 : Int)).2 = 0) = true from rfl]
  skip
  exact ret1 (.inr rfl) rfl rfl ⟨by rw [show decide ((s, (0 : Int)).1 = s) = true from decide_eq_true rfl], hF6.tr f7⟩
end Go.Wk.Ytdelgnflcfhhkaa
