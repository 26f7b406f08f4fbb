/-
  Chapter 17: law FileSealed.
-/
import Derived.Test.YtdelgnflcfhhkaaFlW
import Derived.Test.YtdelgnflcfhhkaaRob
set_option linter.unusedVariables false
namespace Go.Wk.Ytdelgnflcfhhkaa
open Go Go.Wk Go.Proofs

/-- bytes with their digest behind -/
theorem hSealed (s : List UInt8) (w : World) (hs : s.length ≤ 140737488351232) :
    CallsF Try.prog 16 [.string (sOf s)] w fun v w' => v = .string (sOf (s ++ sumB s)) ∧ Fr no w w' := by
  have hb := fnvL_lt s
  obtain ⟨n, hn⟩ : ∃ n, n = fnvL s := ⟨_, rfl⟩
  unfold sumB
  rw [← hn] at hb ⊢
  refine callsF Try.func16 rfl rfl (by decide) rfl ?_
  refine sA [] rfl ?_
  refine ev_call rfl rfl rfl (refFnv s w hs) ?_
  rintro r w1 ⟨rfl, rfl⟩
  rw [← hn]
  refine sA [] rfl ?_
  refine ev_bytesOB tabOk rfl rfl rfl rfl rfl rfl (fun v0 w2 ho hf hv0 => ?_)
  refine sA [] rfl ?_
  refine ev_loop (α := Nat × Value) (fun x => [(3, .int .u64 (n / 256 ^ x.1)), (4, x.2), (5, .int .i64 x.1)])
    (fun x w3 => x.1 ≤ 8 ∧ OB w3 x.2 (s.length + x.1) ((s ++ leB n x.1).map bv) ∧ Fr no w1 w3 ∧ (∀ g, x.2.ownBlock = some g → w1.heap.size ≤ g)) (fun x => 8 - x.1) (0, v0)
    ⟨by simp [look], rfl, rfl, trivial⟩ ⟨Nat.zero_le _, by simpa [leB] using ho, hf, fun g hg => by simp only at hg; rw [hv0] at hg; cases hg; exact Nat.le_refl _⟩ ?_
  rintro ⟨k, v⟩ w3 ⟨hk, ho, hf3, hv⟩
  simp only at hk ho hv
  obtain ⟨q, c, rfl, hA⟩ := ho.slice
  refine sC [] rfl ?_; refine sD [] rfl ?_; refine sD [] rfl ?_
  refine ev_condD rfl (fun hlt => ?_) (fun hlt => ?_)
  · have hnk : 0 ≤ n / 256 ^ k := Int.ediv_nonneg hb.1 (Int.pow_nonneg (by omega))
    have hle : n / 256 ^ k ≤ n := Int.ediv_le_self _ hb.1
    refine sA [] rfl ?_; refine ev_rem rfl rfl rfl rfl (by omega) (by omega) ?_; refine ev_conv rfl rfl tabOk rfl rfl rfl (by simp only [lowK, hiK]; omega) ?_
    refine ev_buildSlice tabOk rfl rfl rfl inf5 rfl rfl rfl (fun v hv => by simp at hv; rcases hv with rfl; rfl) rfl (fun g w4 hg kg f4 => ?_)
    have ho4 := ho.fr0 f4
    have kg : Blk w4 g [Value.int .u8 (n / 256 ^ k % 256)] 5 := kg
    refine ev_appendOB (A := ⟨g, 0, none⟩) (m := 1) (c := 1) (news := [Value.int .u8 (n / 256 ^ k % 256)]) tabOk rfl rfl rfl inf5 rfl rfl rfl ho4 (Cs.of_blk kg) rfl (by omega) (by simp [Value.oneCell']) (by omega) (by omega) (fun v2 w5 ho5 hf5 hn5 => ?_)
    have hq4 : [Value.int .u8 (n / 256 ^ k % 256)] = [byteAt n k].map bv := by
      simp only [List.map_cons, List.map_nil, byteAt_val]
    rw [hq4, ← List.map_append, List.append_assoc, ← leB_snoc] at ho5
    refine sA [] rfl ?_; refine ev_quo rfl rfl rfl rfl (by omega) (by omega) (by simp only [hiK]; omega) ?_; refine sA [] rfl ?_; refine ev_arith rfl rfl rfl rfl rfl (by simp only [lowK, hiK]; omega) ?_; refine sA [] rfl ?_
    refine ev_next (k + 1, v2) (by simp only; omega) ⟨by simp only; omega, ho5, (hf3.tr f4).trans hf5 (fun b hb e => by have := hv b e; omega), fun g hg => ?_⟩ ⟨?_, rfl, rfl, trivial⟩
    · rcases hn5 g hg with h1 | h1
      · exact hv g h1
      · have := hf3.size
        have := f4.size
        omega
    · show some (Value.int .u64 (n / 256 ^ k / 256)) = _
      rw [div_step]
  · have hk' : k = 8 := by omega
    subst hk'
    refine sA [] rfl ?_
    refine ev_strOf (bs := s ++ leB n 8) (cap := c) rfl rfl tabOk (by simp [leB_len, ev, look]) rfl rfl rfl hA ?_
    refine sA [] rfl ?_
    exact ret1 (.inr rfl) rfl rfl ⟨rfl, hf3⟩
set_option maxHeartbeats 8000000 in
set_option maxRecDepth 10000 in
theorem lawSealed (s : List UInt8) (w : World) (hs : s.length ≤ 140737488351232) :
    CallsF Try.prog 4 [.string (sOf s)] w fun r w' => r = .bool true ∧ Fr no w w' := by
  have hse := fun w => hSealed s w (by omega)
  have hsl : (s ++ sumB s).length = s.length + 8 := by rw [List.length_append, sumB_len]
  obtain ⟨S, hS⟩ : ∃ S, S = s ++ sumB s := ⟨_, rfl⟩
  rw [← hS] at hse hsl
  have hsq := decA_smq S
  refine callsF Try.func4 rfl rfl (by decide) rfl ?_
  refine sA [] rfl ?_
  refine ev_call rfl rfl rfl (hse w) ?_
  rintro r w0 ⟨rfl, f0⟩
  skip
  refine ev_call rfl rfl rfl (wDecode S w0 (by omega)) ?_
  rintro r w1 ⟨a, rfl, hap, hO⟩
  have hrd := refDecode S
  obtain ⟨⟨Y, e⟩, hY⟩ : ∃ z, z = decA S := ⟨_, rfl⟩
  rw [← hY] at hsq hap hrd ⊢
  have hap : a.p = Y := hap
  have hal : a.Sm := sm_q (by rw [hap]; exact hsq)
  refine sA [] rfl ?_
  refine ev_alloc rfl rfl inf31 (fun p w2 hp kp f2 => ?_)
  refine ev_storeAgg tabOk rfl rfl rfl rfl rfl rfl kp rfl (fun w3 kp3 f3 => ?_)
  have h13 : Fr no w1 w3 := f2.trans f3 fun z hz e => by have : z = p := e; omega
  have kp : Blk w3 p (lmC a) 31 := kp3
  have ha := hO.At.fr0 h13
  have hF := f0.tr (hO.fr.tr h13)
  clear kp3
  refine sA [] rfl ?_
  refine ev_call rfl rfl rfl (hse w3) ?_
  rintro r w31 ⟨rfl, f31⟩
  have kp := kp.fr0 f31
  have ha := ha.fr0 f31
  have hF := hF.tr f31
  skip
  refine ev_call rfl rfl rfl (hrd w31 (by omega)) ?_
  rintro r w4 ⟨b, rfl, hbp, hb, f4⟩
  have hbp : b.p = Y := hbp
  have hbl : b.Sm := sm_q (by rw [hbp]; exact hsq)
  have kp := kp.fr0 f4
  have ha := ha.fr0 f4
  have hF := hF.tr f4
  refine sA [] rfl ?_
  refine ev_alloc rfl rfl inf41 (fun q w5 hq kq f5 => ?_)
  refine ev_storeAgg tabOk rfl rfl rfl rfl rfl rfl kq rfl (fun w6 kq6 f6 => ?_)
  have h46 : Fr no w4 w6 := f5.trans f6 fun z hz e => by have : z = q := e; omega
  have kq : Blk w6 q (lmC b) 41 := kq6
  have kp := kp.fr0 h46
  have ha := ha.fr0 h46
  have hb := hb.fr0 h46
  have hF := hF.tr h46
  clear kq6
  refine sA [] rfl ?_
  refine mixC_in (fun w' => Fr no w6 w') mixed (fun v g => ?_)
  refine mix1 rfl rfl ?_ g
  refine ev_call rfl rfl rfl (lAwake17 v) ?_
  rintro r v1 ⟨rfl, g1⟩
  have g := g.tr g1
  refine mix_op ?_
  refine mA rfl (by kernel_rfl) (by kernel_rfl) ?_
  refine m_loadAgg 2 rfl rfl rfl (by kernel_rfl) (by kernel_rfl) rfl rfl tabOk rfl rfl rfl (fun w' h => Cs.of_blk (kp.fr0 h)) ?_
  refine m_loadAgg 4 rfl rfl rfl (by kernel_rfl) (by kernel_rfl) rfl rfl tabOk rfl rfl rfl (fun w' h => Cs.of_blk (kq.fr0 h)) ?_
  refine mix1 rfl rfl ?_ g
  refine ev_call rfl rfl rfl (refOf a v1 (ha.fr0 g) hal) ?_
  rintro r v2 ⟨t, rfl, htp, hOt⟩
  have g := g.tr hOt.fr
  refine mix_op ?_
  refine mix1 rfl rfl ?_ g
  refine ev_call rfl rfl rfl (refSameM t b v2 hOt.At (hb.fr0 g) (Sm_p htp hal) hbl) ?_
  rintro r v3 ⟨rfl, g3⟩
  rw [eqB_t (show t.p = b.p by rw [htp, hap, hbp])]
  have g := g.tr g3
  refine mix_op ?_
  refine mA rfl (by kernel_rfl) (by kernel_rfl) ?_
  refine mix_out rfl ?_ g
  refine sA [] rfl ?_
  exact ret1 (.inr rfl) rfl rfl ⟨by rw [show decide ((Y, e).2 = (Y, e).2) = true from decide_eq_true rfl], hF.tr g⟩
end Go.Wk.Ytdelgnflcfhhkaa
