/-
  Chapter 17: law FileTells.
-/
import Derived.Test.YtdelgnflcfhhkaaFlR
set_option linter.unusedVariables false
namespace Go.Wk.Ytdelgnflcfhhkaa
open Go Go.Wk Go.Proofs

set_option maxHeartbeats 8000000 in
set_option maxRecDepth 10000 in
theorem lawTells (m : LM) (at_ : Int) (b : UInt8) (w : World) (hm : m.At w) (hl : m.Sm) (hcap : m.Cap) :
    CallsF Try.prog 6 [lmV m, i64 at_, bv b] w fun r w' => r = .bool true ∧ Fr no w w' := by
  refine callsF Try.func6 rfl rfl (by decide) rfl ?_
  refine sA [] rfl ?_
  refine ev_box rfl rfl rfl fun p w1 hp kp f1 => ?_
  have kp : Blk w1 p (lmC m) 31 := kp
  refine sA [] rfl ?_; refine ev_loadAggB rfl rfl tabOk rfl rfl ‹_› (by rfl) ?_
  refine ev_call rfl rfl rfl (wEncode m w1 (hm.fr0 f1) hl hcap) ?_
  rintro r w2 ⟨rfl, f2⟩
  have kp2 := kp.fr0 f2
  have hF2 := f1.tr f2
  have hee := enc_e m.p
  have hx0 : (validQ m.p).2.2 = 0 → (encA m.p).1 = fileQ m.p := fun h => by unfold encA; rw [if_pos h]
  obtain ⟨⟨X, e⟩, hX⟩ : ∃ z, z = encA m.p := ⟨_, rfl⟩
  rw [← hX] at hee hx0 ⊢
  have hee : e = (validQ m.p).2.2 := hee
  have hx0 : (validQ m.p).2.2 = 0 → X = fileQ m.p := hx0
  refine sA [] rfl ?_; refine ev_loadAggB rfl rfl tabOk rfl rfl ‹_› (by rfl) ?_
  refine ev_call rfl rfl rfl (refOf m w2 (hm.fr0 hF2) hl) ?_
  rintro r w3 ⟨t, rfl, htp, hO⟩
  have htl := Sm_p htp hl
  skip
  refine ev_call rfl rfl rfl (refValid t w3 hO.At htl hO.cap) ?_
  rintro r w4 ⟨rfl, f4⟩
  rw [htp]
  have hF4 := (hF2.tr hO.fr).tr f4
  have hvm := @vm_of m.p
  have tp := @tell_pre m.p
  have tm := @tell_more m.p
  have tt := @tell_turn m.p
  obtain ⟨a, ha⟩ : ∃ a, a = validQ m.p := ⟨_, rfl⟩
  rw [← ha] at hee hx0 hvm tp tm tt ⊢
  clear kp kp2
  refine sA [] rfl ?_
  refine ev_call rfl rfl rfl (lAwake17 w4) ?_
  rintro r w5 ⟨rfl, f5⟩
  have hF5 := hF4.tr f5
  refine sC [] rfl ?_; refine sD [] rfl ?_; refine sD [] rfl ?_; refine sD [] rfl ?_
  rw [show decide (¬ (X, e).2 = a.2.2) = false from decide_eq_false (fun h => h hee)]
  refine sC [] rfl ?_; refine sC [] rfl ?_
  by_cases h0 : a.2.2 = 0
  rotate_left
  · rw [show decide (¬ (X, e).2 = 0) = true from decide_eq_true (by rw [hee]; exact h0)]
    refine sA [] rfl ?_
    exact ret1 (.inr rfl) rfl rfl ⟨rfl, hF5⟩
  rw [show decide (¬ (X, e).2 = 0) = false from decide_eq_false (fun h => h (by rw [hee]; exact h0))]
  have hXF := hx0 h0
  have hXl : X.length ≤ 20000000 := by rw [hXF]; exact fileQ_le (hvm h0)
  refine sC [] rfl ?_
  by_cases h1 : at_ < 0
  · rw [show decide (at_ < 0) = true from decide_eq_true h1]
    refine sA [] rfl ?_
    exact ret1 (.inr rfl) rfl rfl ⟨rfl, hF5⟩
  rw [show decide (at_ < 0) = false from decide_eq_false h1]
  refine sC [] rfl ?_; refine sD [] rfl ?_; refine sD [] rfl ?_
  by_cases h2 : (X.length : Int) ≤ at_
  · rw [show decide (((X, e).1.length : Int) ≤ at_) = true from decide_eq_true h2]
    refine sA [] rfl ?_
    exact ret1 (.inr rfl) rfl rfl ⟨rfl, hF5⟩
  rw [show decide (((X, e).1.length : Int) ≤ at_) = false from decide_eq_false h2]
  obtain ⟨k, rfl⟩ := Int.eq_ofNat_of_zero_le (show 0 ≤ at_ by omega)
  have hk : k < X.length := by omega
  rw [← hXF] at tp tm tt
  refine sA [] rfl ?_
  refine ev_sliceStr (s := X) (i := 0) (j := (k : Int)) rfl rfl tabOk rfl rfl rfl rfl (by omega) (by omega) (by omega) ?_
  rw [show (X.take ((k : Int)).toNat).drop (Int.toNat 0) = X.take k from rfl]
  refine ev_call rfl rfl rfl (wDecode (X.take k) w5 (by rw [List.length_take]; omega)) ?_
  rintro r w6 ⟨n1, rfl, _, hO1⟩
  have e1 := tp h0 hk
  obtain ⟨d1, hd1⟩ : ∃ d, d = (decA (X.take k)).2 := ⟨_, rfl⟩
  rw [← hd1] at e1 ⊢
  have hF6 := hF5.tr hO1.fr
  refine sA [] rfl ?_
  refine ev_alloc rfl rfl inf31 (fun q1 w7 hq1 kq1 f7 => ?_)
  refine ev_storeAgg tabOk rfl rfl rfl rfl rfl rfl kq1 rfl (fun w8 kq1 f8 => ?_)
  have hF8 := hF6.tr (f7.trans f8 fun z hz e => by have : z = q1 := e; omega)
  refine sA [] rfl ?_
  refine ev_buildSlice tabOk rfl rfl rfl inf5 rfl rfl rfl (fun v hv => by simp at hv; rcases hv with rfl; rfl) rfl (fun g w9 hg kg f9 => ?_)
  have kg : Blk w9 g ([b].map bv) 5 := kg
  refine ev_strOf (A := some ⟨g, 0, none⟩) (cap := 1) (bs := [b]) rfl rfl tabOk rfl rfl rfl rfl (Cs.of_blk kg) ?_
  refine ev_concat rfl rfl rfl rfl (by show X.length + 1 ≤ _; omega) ?_
  refine ev_call rfl rfl rfl (wDecode (X ++ [b]) w9 (by rw [List.length_append, List.length_singleton]; omega)) ?_
  rintro r w10 ⟨n2, rfl, _, hO2⟩
  have e2 := tm h0 b
  obtain ⟨d2, hd2⟩ : ∃ d, d = (decA (X ++ [b])).2 := ⟨_, rfl⟩
  rw [← hd2] at e2 ⊢
  have hF10 := (hF8.tr f9).tr hO2.fr
  refine sA [] rfl ?_
  refine ev_alloc rfl rfl inf31 (fun q2 w11 hq2 kq2 f11 => ?_)
  refine ev_storeAgg tabOk rfl rfl rfl rfl rfl rfl kq2 rfl (fun w12 kq2 f12 => ?_)
  have hF12 := hF10.tr (f11.trans f12 fun z hz e => by have : z = q2 := e; omega)
  refine sC [] rfl ?_; refine sC [] rfl ?_
  rw [show decide (d1 = 0) = false from decide_eq_false e1]
  refine sC [] rfl ?_
  rw [show decide (d2 = 0) = false from decide_eq_false e2]
  refine sA [] rfl ?_
  refine ev_index (s := X) rfl rfl tabOk rfl rfl rfl (by omega) (by omega) ?_
  rw [Int.toNat_natCast]
  refine sD [] rfl ?_; refine sD [] rfl ?_; refine sD [] rfl ?_
  refine ev_condD rfl (fun c => ?_) (fun c => ?_)
  · refine sA [] rfl ?_
    exact ret1 (.inr rfl) rfl rfl ⟨rfl, hF12⟩
  have hne : X.getD k 0 ≠ b := fun h => c (by rw [h])
  have e3 := tt h0 hk hne
  obtain ⟨d3, hd3⟩ : ∃ d, d = (decA (X.take k ++ [b] ++ X.drop (k + 1))).2 := ⟨_, rfl⟩
  rw [← hd3] at e3
  refine sA [] rfl ?_
  refine mix_in mixed (fun v1 g1 => ?_)
  have hFv := hF12.tr g1
  refine mA rfl (by kernel_rfl) (by kernel_rfl) ?_
  refine m_sliceStr (s := X) (i := 0) (j := (k : Int)) 2 rfl rfl rfl (by kernel_rfl) (by kernel_rfl) rfl rfl tabOk rfl rfl rfl rfl (by omega) (by omega) (by omega) ?_
  refine m_arith 9 rfl rfl rfl (by kernel_rfl) (by kernel_rfl) rfl rfl rfl rfl rfl (by simp only [lowK, hiK]; omega) ?_
  refine m_sliceStr (s := X) (i := (k : Int) + 1) (j := X.length) 10 rfl rfl rfl (by kernel_rfl) (by kernel_rfl) rfl rfl tabOk rfl rfl rfl rfl (by omega) (by omega) (by omega) ?_
  rw [show (X.take ((k : Int)).toNat).drop (Int.toNat 0) = X.take k from rfl, show (X.take ((X.length : Int)).toNat).drop ((k : Int) + 1).toNat = X.drop (k + 1) by rw [show ((k : Int) + 1).toNat = k + 1 by omega, Int.toNat_natCast, List.take_length]]
  refine mix2 rfl rfl rfl ?_ ?_
  · refine ev_buildSlice tabOk rfl rfl rfl inf5 rfl rfl rfl (fun v hv => by simp at hv; rcases hv with rfl; rfl) rfl (fun g3 u hg3 kg3 gB => ?_)
    have kg3 : Blk u g3 ([b].map bv) 5 := kg3
    have hFv := hFv.tr gB
    refine mix_op ?_
    refine mix2 rfl rfl rfl ?_ ?_
    · refine ev_strOf (A := some ⟨g3, 0, none⟩) (cap := 1) (bs := [b]) rfl rfl tabOk rfl rfl rfl rfl (Cs.of_blk kg3) ?_
      refine mix_op ?_
      refine m_concat (s := X.take k) (u := [b]) 6 rfl rfl rfl (by kernel_rfl) (by kernel_rfl) rfl rfl rfl rfl (by simp only [List.length_take, List.length_singleton]; omega) ?_
      refine m_concat (s := X.take k ++ [b]) (u := X.drop (k + 1)) 11 rfl rfl rfl (by kernel_rfl) (by kernel_rfl) rfl rfl rfl rfl (by simp only [List.length_append, List.length_take, List.length_drop, List.length_singleton]; omega) ?_
      refine mix2 rfl rfl rfl ?_ ?_
      · refine ev_call rfl rfl rfl (wDecode (X.take k ++ [b] ++ X.drop (k + 1)) _ (by simp only [List.length_append, List.length_take, List.length_drop, List.length_singleton]; omega)) ?_
        rintro r u ⟨n3, rfl, _, hO3⟩
        rw [← hd3]
        have hFv := hFv.tr hO3.fr
        have kg3 := kg3.fr0 hO3.fr
        refine mix_op ?_
        refine mA rfl (by kernel_rfl) (by kernel_rfl) ?_
        refine mix1 rfl rfl ?_
        refine ev_alloc rfl rfl inf31 (fun q3 u hq3 kq3 gL => ?_)
        have hFq := Nat.le_trans hFv.size hq3
        have hFv := hFv.tr gL
        have kg3 := kg3.fr0 gL
        refine mix_op ?_
        refine mix1 rfl rfl ?_
        refine ev_storeAgg tabOk rfl rfl rfl rfl rfl rfl kq3 rfl (fun u9 k9 g9 => ?_)
        have hFv := hFv.trans g9 fun z hz e => by have : z = q3 := e; have := hFq; omega
        refine mix_op ?_
        refine mA rfl (by kernel_rfl) (by kernel_rfl) ?_
        refine mix_out rfl ?_
        refine sA [] rfl ?_
        rw [show decide (¬ d3 = 0) = true from decide_eq_true e3]
        skip
        exact ret1 (.inr rfl) rfl rfl ⟨rfl, hFv⟩
      · refine ev_alloc rfl rfl inf31 (fun q3 u hq3 kq3 gL => ?_)
        have hFq := Nat.le_trans hFv.size hq3
        have hFv := hFv.tr gL
        have kg3 := kg3.fr0 gL
        refine mix_op ?_
        refine mix1 rfl rfl ?_
        refine ev_call rfl rfl rfl (wDecode (X.take k ++ [b] ++ X.drop (k + 1)) _ (by simp only [List.length_append, List.length_take, List.length_drop, List.length_singleton]; omega)) ?_
        rintro r u ⟨n3, rfl, _, hO3⟩
        rw [← hd3]
        have hFv := hFv.tr hO3.fr
        have kq3 := kq3.fr0 hO3.fr
        have kg3 := kg3.fr0 hO3.fr
        refine mix_op ?_
        refine mA rfl (by kernel_rfl) (by kernel_rfl) ?_
        refine mix1 rfl rfl ?_
        refine ev_storeAgg tabOk rfl rfl rfl rfl rfl rfl kq3 rfl (fun u9 k9 g9 => ?_)
        have hFv := hFv.trans g9 fun z hz e => by have : z = q3 := e; have := hFq; omega
        refine mix_op ?_
        refine mA rfl (by kernel_rfl) (by kernel_rfl) ?_
        refine mix_out rfl ?_
        refine sA [] rfl ?_
        rw [show decide (¬ d3 = 0) = true from decide_eq_true e3]
        skip
        exact ret1 (.inr rfl) rfl rfl ⟨rfl, hFv⟩
    · refine ev_alloc rfl rfl inf31 (fun q3 u hq3 kq3 gL => ?_)
      have hFq := Nat.le_trans hFv.size hq3
      have hFv := hFv.tr gL
      have kg3 := kg3.fr0 gL
      refine mix_op ?_
      refine mix1 rfl rfl ?_
      refine ev_strOf (A := some ⟨g3, 0, none⟩) (cap := 1) (bs := [b]) rfl rfl tabOk rfl rfl rfl rfl (Cs.of_blk kg3) ?_
      refine mix_op ?_
      refine m_concat (s := X.take k) (u := [b]) 6 rfl rfl rfl (by kernel_rfl) (by kernel_rfl) rfl rfl rfl rfl (by simp only [List.length_take, List.length_singleton]; omega) ?_
      refine m_concat (s := X.take k ++ [b]) (u := X.drop (k + 1)) 11 rfl rfl rfl (by kernel_rfl) (by kernel_rfl) rfl rfl rfl rfl (by simp only [List.length_append, List.length_take, List.length_drop, List.length_singleton]; omega) ?_
      refine mix1 rfl rfl ?_
      refine ev_call rfl rfl rfl (wDecode (X.take k ++ [b] ++ X.drop (k + 1)) _ (by simp only [List.length_append, List.length_take, List.length_drop, List.length_singleton]; omega)) ?_
      rintro r u ⟨n3, rfl, _, hO3⟩
      rw [← hd3]
      have hFv := hFv.tr hO3.fr
      have kq3 := kq3.fr0 hO3.fr
      have kg3 := kg3.fr0 hO3.fr
      refine mix_op ?_
      refine mA rfl (by kernel_rfl) (by kernel_rfl) ?_
      refine mix1 rfl rfl ?_
      refine ev_storeAgg tabOk rfl rfl rfl rfl rfl rfl kq3 rfl (fun u9 k9 g9 => ?_)
      have hFv := hFv.trans g9 fun z hz e => by have : z = q3 := e; have := hFq; omega
      refine mix_op ?_
      refine mA rfl (by kernel_rfl) (by kernel_rfl) ?_
      refine mix_out rfl ?_
      refine sA [] rfl ?_
      rw [show decide (¬ d3 = 0) = true from decide_eq_true e3]
      skip
      exact ret1 (.inr rfl) rfl rfl ⟨rfl, hFv⟩
  · refine ev_alloc rfl rfl inf31 (fun q3 u hq3 kq3 gL => ?_)
    have hFq := Nat.le_trans hFv.size hq3
    have hFv := hFv.tr gL
    refine mix_op ?_
    refine mix1 rfl rfl ?_
    refine ev_buildSlice tabOk rfl rfl rfl inf5 rfl rfl rfl (fun v hv => by simp at hv; rcases hv with rfl; rfl) rfl (fun g3 u hg3 kg3 gB => ?_)
    have kg3 : Blk u g3 ([b].map bv) 5 := kg3
    have hFv := hFv.tr gB
    have kq3 := kq3.fr0 gB
    refine mix_op ?_
    refine mix1 rfl rfl ?_
    refine ev_strOf (A := some ⟨g3, 0, none⟩) (cap := 1) (bs := [b]) rfl rfl tabOk rfl rfl rfl rfl (Cs.of_blk kg3) ?_
    refine mix_op ?_
    refine m_concat (s := X.take k) (u := [b]) 6 rfl rfl rfl (by kernel_rfl) (by kernel_rfl) rfl rfl rfl rfl (by simp only [List.length_take, List.length_singleton]; omega) ?_
    refine m_concat (s := X.take k ++ [b]) (u := X.drop (k + 1)) 11 rfl rfl rfl (by kernel_rfl) (by kernel_rfl) rfl rfl rfl rfl (by simp only [List.length_append, List.length_take, List.length_drop, List.length_singleton]; omega) ?_
    refine mix1 rfl rfl ?_
    refine ev_call rfl rfl rfl (wDecode (X.take k ++ [b] ++ X.drop (k + 1)) _ (by simp only [List.length_append, List.length_take, List.length_drop, List.length_singleton]; omega)) ?_
    rintro r u ⟨n3, rfl, _, hO3⟩
    rw [← hd3]
    have hFv := hFv.tr hO3.fr
    have kq3 := kq3.fr0 hO3.fr
    have kg3 := kg3.fr0 hO3.fr
    refine mix_op ?_
    refine mA rfl (by kernel_rfl) (by kernel_rfl) ?_
    refine mix1 rfl rfl ?_
    refine ev_storeAgg tabOk rfl rfl rfl rfl rfl rfl kq3 rfl (fun u9 k9 g9 => ?_)
    have hFv := hFv.trans g9 fun z hz e => by have : z = q3 := e; have := hFq; omega
    refine mix_op ?_
    refine mA rfl (by kernel_rfl) (by kernel_rfl) ?_
    refine mix_out rfl ?_
    refine sA [] rfl ?_
    rw [show decide (¬ d3 = 0) = true from decide_eq_true e3]
    skip
    exact ret1 (.inr rfl) rfl rfl ⟨rfl, hFv⟩
end Go.Wk.Ytdelgnflcfhhkaa
