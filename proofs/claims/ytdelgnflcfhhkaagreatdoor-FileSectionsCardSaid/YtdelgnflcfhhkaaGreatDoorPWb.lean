/-
  Taken for this seat out of WireR.
-/
import Derived.Test.YtdelgnflcfhhkaaGreatDoorPWa
import Derived.Test.YtdelgnflcfhhkaaGreatDoorPVo
import Derived.Test.YtdelgnflcfhhkaaGreatDoorMevs
set_option linter.unusedVariables false
namespace Go.Wk.YtdelgnflcfhhkaaGreatDoor
open Go Go.Wk Go.Proofs
theorem refSize (x : Int) (w : World) : CallsF Tryz.prog 128 [.int .i64 x] w fun v w' => v = .bool (decide (x = 1 ∨ x = 2 ∨ x = 4 ∨ x = 8)) ∧ w' = w := by
  refine callsF Tryz.func128 rfl rfl (by decide) rfl ?_
  refine sC [] rfl ?_; refine sC [] rfl ?_; refine sD [] rfl ?_
  repeat
    refine ev_guardD rfl rfl (fun h => ?_) (fun h => ?_)
    · repeat (first | refine sA [] rfl ?_ | refine sB [] rfl ?_ | refine sC [] rfl ?_ | refine sD [] rfl ?_ | refine ev_load rfl rfl tabOk rfl rfl ‹_› ?_ | refine ev_loadB rfl rfl tabOk rfl rfl ‹_› (by rfl) ?_ | refine ev_loadAggB rfl rfl tabOk rfl rfl ‹_› (by rfl) ?_ | refine ev_arith rfl rfl rfl rfl rfl (by simp only [lowK, hiK]; omega) ?_ | refine ev_rem rfl rfl rfl rfl (by omega) (by omega) ?_ | refine ev_quo rfl rfl rfl rfl (by omega) (by omega) (by simp only [hiK]; omega) ?_ | refine ev_index rfl rfl tabOk rfl rfl rfl (by omega) (by omega) ?_ | refine ev_indexA rfl rfl tabOk rfl rfl rfl (by omega) (by omega) rfl ?_ | refine ev_convB rfl rfl tabOk rfl rfl rfl rfl ?_ | refine ev_conv rfl rfl tabOk rfl rfl rfl (by simp only [lowK, hiK]; omega) ?_)
      exact ret1 (.inr rfl) rfl rfl ⟨by rw [decide_eq_true (by omega)], rfl⟩
    repeat (first | refine sA [] rfl ?_ | refine sB [] rfl ?_ | refine sC [] rfl ?_ | refine sD [] rfl ?_ | refine ev_load rfl rfl tabOk rfl rfl ‹_› ?_ | refine ev_loadB rfl rfl tabOk rfl rfl ‹_› (by rfl) ?_ | refine ev_loadAggB rfl rfl tabOk rfl rfl ‹_› (by rfl) ?_ | refine ev_arith rfl rfl rfl rfl rfl (by simp only [lowK, hiK]; omega) ?_ | refine ev_rem rfl rfl rfl rfl (by omega) (by omega) ?_ | refine ev_quo rfl rfl rfl rfl (by omega) (by omega) (by simp only [hiK]; omega) ?_ | refine ev_index rfl rfl tabOk rfl rfl rfl (by omega) (by omega) ?_ | refine ev_indexA rfl rfl tabOk rfl rfl rfl (by omega) (by omega) rfl ?_ | refine ev_convB rfl rfl tabOk rfl rfl rfl rfl ?_ | refine ev_conv rfl rfl tabOk rfl rfl rfl (by simp only [lowK, hiK]; omega) ?_)
  exact ret1 (.inr rfl) rfl rfl ⟨by congr 1; rw [decide_eq_decide]; omega, rfl⟩
theorem numE_cases {n bytes : Int} (hp : bytes = 1 ∨ bytes = 2 ∨ bytes = 4 ∨ bytes = 8) : numE n bytes = if n < 0 ∨ bytes < 8 ∧ 256 ^ bytes.toNat ≤ n then 10 else 0 := by
  unfold numE; rw [if_pos hp]
end Go.Wk.YtdelgnflcfhhkaaGreatDoor
namespace Go.Wk.YtdelgnflcfhhkaaGreatDoor
open Go Go.Wk Go.Proofs
/-- the document's reader, as a value -/
abbrev mR (s : List UInt8) (i : Nat) : Value := .agg ⟨[.string (sOf s), .int .i64 i]⟩
theorem fresh_set {w w1 w2 : World} {b : Nat} (h : Fr no w w1) (hb : w.heap.size ≤ b) (h2 : Fr (fun c => c = b) w1 w2) : Fr no w w2 := h.trans h2 fun c hc e => by omega
theorem refLeft (s : List UInt8) (i : Nat) (w : World) (hi : i ≤ s.length) (hs : s.length ≤ 140737488355232) :
    CallsF Tryz.prog 129 [mR s i] w fun v w' => v = .int .i64 (s.length - i) ∧ Fr no w w' := by
  refine callsF Tryz.func129 rfl rfl (by decide) rfl ?_
  refine sA [] rfl ?_
  refine ev_box rfl rfl rfl (fun b w1 hb hB hf => ?_)
  have c0 : w1.cell? ⟨b, 0, none⟩ = some (.string (sOf s)) := hB.cell rfl
  have c1 : w1.cell? ⟨b, 1, none⟩ = some (.int .i64 i) := hB.cell rfl
  refine sA [] rfl ?_; refine ev_load rfl rfl tabOk rfl rfl ‹_› ?_; refine sA [] rfl ?_; refine ev_load rfl rfl tabOk rfl rfl ‹_› ?_; refine ev_arith rfl rfl rfl rfl rfl (by simp only [lowK, hiK]; omega) ?_; refine sA [] rfl ?_
  exact ret1 (.inr rfl) rfl rfl ⟨rfl, hf⟩
theorem refReadRaw (s : List UInt8) (i : Nat) (n : Int) (w : World) (hi : i ≤ s.length) (hs : s.length ≤ 140737488355232) :
    CallsF Tryz.prog 94 [mR s i, .int .i64 n] w fun v w' => v = .tuple #[mR s (rrA s i n), .string (sOf (rrV s i n)), .int .i64 (rrE s i n)] ∧ Fr no w w' := by
  have bad : ∀ {e : Int}, e ≠ 0 → rrE s i n = e → rrV s i n = [] ∧ rrA s i n = i := fun h0 he => by
    unfold rrV rrA; rw [he, if_neg h0, if_neg h0]; exact ⟨rfl, rfl⟩
  refine callsF Tryz.func94 rfl rfl (by decide) rfl ?_
  refine sA [] rfl ?_
  refine ev_box rfl rfl rfl (fun b w1 hb hB hf => ?_)
  refine ev_alloc rfl rfl inf147 (fun r w2 hr hR hf2 => ?_)
  have hf12 := hf.tr hf2
  have hB2 := hB.fr0 hf2
  have hbr : b ≠ r := fun e => by have := hB.lt; omega
  have hrw : w.heap.size ≤ r := by have := hf.size; omega
  clear hB
  refine sC [] rfl ?_; refine sC [] rfl ?_; refine sD [] rfl ?_
  refine ev_condD rfl (fun hp => ?_) (fun hp => ?_)
  · refine sA [] rfl ?_; refine ev_loadAggB rfl rfl tabOk rfl rfl ‹_› (by rfl) ?_
    refine ev_storeAgg tabOk rfl rfl rfl rfl rfl rfl hR rfl (fun w3 hR3 hf3 => ?_)
    refine sA [] rfl ?_
    have e : rrE s i n = 1 := by unfold rrE; rw [if_pos hp]
    refine retG tabOk (.inr rfl) rfl [mR s i, .string (sOf []), .int .i64 1] ⟨⟨_, rfl, .inl ⟨rfl, _, rfl, rfl, Cs.of_blk hR3⟩⟩, rfl, rfl, trivial⟩ ⟨?_, fresh_set hf12 hrw hf3⟩
    rw [e, (bad (by omega) e).1, (bad (by omega) e).2]; rfl
  refine sA [] rfl ?_; refine ev_loadAggB rfl rfl tabOk rfl rfl ‹_› (by rfl) ?_
  refine ev_call rfl rfl rfl (refLeft s i _ hi hs) (fun q w3 hq => ?_)
  obtain ⟨rfl, hf3⟩ := hq
  have hB3 := hB2.fr0 hf3; have hR3 := hR.fr0 hf3
  clear hB2 hR
  refine sD [] rfl ?_; refine sD [] rfl ?_; refine sD [] rfl ?_
  refine ev_condD rfl (fun h1 => ?_) (fun h1 => ?_)
  · refine sA [] rfl ?_; refine ev_loadAggB rfl rfl tabOk rfl rfl ‹_› (by rfl) ?_
    refine ev_storeAgg tabOk rfl rfl rfl rfl rfl rfl hR3 rfl (fun w4 hR4 hf4 => ?_)
    refine sA [] rfl ?_
    have e : rrE s i n = 11 := by unfold rrE; rw [if_neg hp, if_pos h1]
    refine retG tabOk (.inr rfl) rfl [mR s i, .string (sOf []), .int .i64 11] ⟨⟨_, rfl, .inl ⟨rfl, _, rfl, rfl, Cs.of_blk hR4⟩⟩, rfl, rfl, trivial⟩ ⟨?_, fresh_set (hf12.tr hf3) hrw hf4⟩
    rw [e, (bad (by omega) e).1, (bad (by omega) e).2]; rfl
  refine sA [] rfl ?_; refine ev_loadB rfl rfl tabOk rfl rfl ‹_› (by rfl) ?_; refine sA [] rfl ?_; refine ev_loadB rfl rfl tabOk rfl rfl ‹_› (by rfl) ?_; refine sA [] rfl ?_; refine ev_loadB rfl rfl tabOk rfl rfl ‹_› (by rfl) ?_; refine sA [] rfl ?_; refine ev_arith rfl rfl rfl rfl rfl (by simp only [lowK, hiK]; omega) ?_
  refine ev_sliceStr rfl rfl tabOk rfl rfl rfl rfl (by omega) (by omega) (by omega) ?_
  refine sA [] rfl ?_; refine ev_loadB rfl rfl tabOk rfl rfl ‹_› (by rfl) ?_; refine sA [] rfl ?_; refine ev_arith rfl rfl rfl rfl rfl (by simp only [lowK, hiK]; omega) ?_; refine sA [] rfl ?_
  refine ev_store tabOk rfl rfl rfl rfl rfl rfl hB3 rfl (fun w4 hB4 hf4 => ?_)
  have hR4 := hR3.fr hf4 (fun e => hbr e.symm)
  clear hB3 hR3
  refine sA [] rfl ?_; refine ev_loadAggB rfl rfl tabOk rfl rfl ‹_› (by rfl) ?_; refine sA [] rfl ?_
  refine ev_storeAgg tabOk rfl rfl rfl rfl rfl rfl hR4 rfl (fun w5 hR5 hf5 => ?_)
  refine sA [] rfl ?_
  have e : rrE s i n = 0 := by unfold rrE; rw [if_neg hp, if_neg h1]
  refine retG tabOk (.inr rfl) rfl [.agg ⟨[.string (sOf s), .int .i64 (i + n)]⟩, .string (sOf ((s.take ((i : Int) + n).toNat).drop (i : Int).toNat)), .int .i64 0] ⟨⟨_, rfl, .inl ⟨rfl, _, rfl, rfl, Cs.of_blk hR5⟩⟩, rfl, rfl, trivial⟩
    ⟨?_, fresh_set (fresh_set (hf12.tr hf3) hb hf4) hrw hf5⟩
  have e1 : (i : Int).toNat = i := by omega
  have e2 : ((i : Int) + n).toNat = i + n.toNat := by omega
  have ha : rrA s i n = i + n.toNat := by unfold rrA; rw [if_pos e]
  have hv : rrV s i n = cut s i n.toNat := by unfold rrV; rw [if_pos e]
  have hat : ((i : Int) + n) = ((rrA s i n : Nat) : Int) := by rw [ha]; omega
  rw [e, hv, take_drop_cut, e1, e2, show i + n.toNat - i = n.toNat by omega, hat]; rfl
theorem leN_top8 {l : List UInt8} (h : l.length = 8) : leN l = leN (l.take 7) + 256 ^ 7 * (l.getD 7 0).toNat := by
  have h10 : l = l.take 7 ++ [l.getD 7 0] := by rw [← take_snoc (by omega), List.take_of_length_le (by omega)]
  have h11 := congrArg leN h10
  rw [leN_snoc] at h11
  have h12 : (l.take 7).length = 7 := by simp; omega
  rw [h12] at h11
  exact h11
theorem leN_drop {l : List UInt8} {m : Nat} (h : m < l.length) : leN (l.drop m) = (l.getD m 0).toNat + 256 * leN (l.drop (m + 1)) := by
  rw [List.drop_eq_getElem_cons h]
  simp [leN, h]
theorem cut_getD {s : List UInt8} {i k m : Nat} (h : m < k) (hk : i + k ≤ s.length) : (cut s i k).getD m 0 = s.getD (i + m) 0 := by
  unfold cut
  simp only [List.getD_eq_getElem?_getD, List.getElem?_take, h, if_true, List.getElem?_drop]
set_option maxHeartbeats 2000000 in
theorem refReadNumber (s : List UInt8) (i : Nat) (bytes : Int) (w : World) (hi : i ≤ s.length) (hs : s.length ≤ 140737488355232) :
    CallsF Tryz.prog 93 [mR s i, .int .i64 bytes] w fun v w' => v = .tuple #[mR s (rnA s i bytes), .int .i64 (rnV s i bytes), .int .i64 (rnE s i bytes)] ∧ Fr no w w' := by
  have bad : ∀ {e : Int}, e ≠ 0 → rnE s i bytes = e → rnV s i bytes = 0 ∧ rnA s i bytes = i := fun h0 he => by
    unfold rnV rnA; rw [he, if_neg h0, if_neg h0]; exact ⟨rfl, rfl⟩
  refine callsF Tryz.func93 rfl rfl (by decide) rfl ?_
  refine sA [] rfl ?_
  refine ev_box rfl rfl rfl (fun b w1 hb hB hf => ?_)
  refine ev_alloc rfl rfl inf147 (fun r w2 hr hR hf2 => ?_)
  have hf12 := hf.tr hf2
  have hB2 := hB.fr0 hf2
  have hbr : b ≠ r := fun e => by have := hB.lt; omega
  have hrw : w.heap.size ≤ r := by have := hf.size; omega
  clear hB
  refine sA [] rfl ?_
  refine ev_call rfl rfl rfl (refSize _ _) (fun q w3 hq => ?_)
  obtain ⟨rfl, rfl⟩ := hq
  refine sD [] rfl ?_; refine sD [] rfl ?_
  refine ev_condND rfl (fun hp => ?_) (fun hp => ?_)
  · refine sA [] rfl ?_; refine ev_loadAggB rfl rfl tabOk rfl rfl ‹_› (by rfl) ?_
    refine ev_storeAgg tabOk rfl rfl rfl rfl rfl rfl hR rfl (fun w3 hR3 hf3 => ?_)
    refine sA [] rfl ?_
    have e : rnE s i bytes = 1 := by unfold rnE; rw [if_neg hp]
    refine retG tabOk (.inr rfl) rfl [mR s i, .int .i64 0, .int .i64 1] ⟨⟨_, rfl, .inl ⟨rfl, _, rfl, rfl, Cs.of_blk hR3⟩⟩, rfl, rfl, trivial⟩ ⟨?_, fresh_set hf12 hrw hf3⟩
    rw [e, (bad (by omega) e).1, (bad (by omega) e).2]; rfl
  refine sA [] rfl ?_; refine ev_loadAggB rfl rfl tabOk rfl rfl ‹_› (by rfl) ?_
  refine ev_call rfl rfl rfl (refLeft s i _ hi hs) (fun q w3 hq => ?_)
  obtain ⟨rfl, hf3⟩ := hq
  have hB3 := hB2.fr0 hf3; have hR3 := hR.fr0 hf3
  clear hB2 hR
  refine sD [] rfl ?_; refine sD [] rfl ?_; refine sD [] rfl ?_
  refine ev_condD rfl (fun h1 => ?_) (fun h1 => ?_)
  · refine sA [] rfl ?_; refine ev_loadAggB rfl rfl tabOk rfl rfl ‹_› (by rfl) ?_
    refine ev_storeAgg tabOk rfl rfl rfl rfl rfl rfl hR3 rfl (fun w4 hR4 hf4 => ?_)
    refine sA [] rfl ?_
    have e : rnE s i bytes = 11 := by unfold rnE; rw [if_pos hp, if_pos h1]
    refine retG tabOk (.inr rfl) rfl [mR s i, .int .i64 0, .int .i64 11] ⟨⟨_, rfl, .inl ⟨rfl, _, rfl, rfl, Cs.of_blk hR4⟩⟩, rfl, rfl, trivial⟩ ⟨?_, fresh_set (hf12.tr hf3) hrw hf4⟩
    rw [e, (bad (by omega) e).1, (bad (by omega) e).2]; rfl
  refine sA [] rfl ?_; refine ev_arith rfl rfl rfl rfl rfl (by simp only [lowK, hiK]; omega) ?_; refine sA [] rfl ?_
  -- the bytes from the last one down: x of them are still to come
  generalize hl : cut s i bytes.toNat = l at *
  have hll : l.length = bytes.toNat := by rw [← hl]; exact cut_len (by omega)
  refine ev_loop (α := Nat) (fun m => [(1, .int .i64 bytes), (2, .pointer (some ⟨b, 0, none⟩)), (4, .pointer (some ⟨r, 0, none⟩)), (5, .int .i64 0), (6, .int .i64 0), (7, .int .i64 (leN (l.drop m))), (8, .int .i64 ((m : Int) - 1))])
    (fun m w4 => m ≤ bytes.toNat ∧ w4 = w3 ∧ (bytes = 8 → m < 8 → leN (l.drop m) < 128 * 256 ^ (7 - m))) (fun m => m) bytes.toNat ⟨rfl, rfl, rfl, rfl, rfl, ?_, ?_, trivial⟩ ⟨Nat.le_refl _, rfl, fun h8 hm => by omega⟩ ?_
  · rw [List.drop_of_length_le (by omega)]; rfl
  · show some (Value.int .i64 (bytes - 1)) = _
    congr 2; omega
  rintro m w4 ⟨hm, rfl, hbig⟩
  have c0 : w4.cell? ⟨b, 0, none⟩ = some (.string (sOf s)) := hB3.cell rfl
  have c1 : w4.cell? ⟨b, 1, none⟩ = some (.int .i64 i) := hB3.cell rfl
  refine sC [] rfl ?_; refine sD [] rfl ?_; refine sD [] rfl ?_
  refine ev_condD rfl (fun hlt => ?_) (fun hlt => ?_)
  · have hidx : ((i : Int) + ((m : Int) - 1)).toNat = i + (m - 1) := by omega
    have hbyte : s.getD (i + (m - 1)) 0 = l.getD (m - 1) 0 := by rw [← hl]; exact (cut_getD (by omega) (by omega)).symm
    have hstep : leN (l.drop (m - 1)) = (l.getD (m - 1) 0).toNat + 256 * leN (l.drop m) := by
      rw [leN_drop (by omega)]
      rw [show m - 1 + 1 = m by omega]
    have hu := (l.getD (m - 1) 0).toNat_lt
    have hlen : leN (l.drop m) < 256 ^ (bytes.toNat - m) := by
      have := leN_lt (l.drop m)
      rwa [List.length_drop, hll] at this
    have hsmall : bytes ≠ 8 → leN (l.drop m) < 256 ^ 4 := fun h8 => by
      have : 256 ^ (bytes.toNat - m) ≤ 256 ^ 4 := Nat.pow_le_pow_right (by omega) (by omega)
      omega
    have hbig8 : bytes = 8 → m < 8 → leN (l.drop m) < 128 * 256 ^ 6 := fun h8 hm8 => by
      have h2 := hbig h8 hm8
      have : 256 ^ (7 - m) ≤ 256 ^ 6 := Nat.pow_le_pow_right (by omega) (by omega)
      omega
    have hbig9 : bytes = 8 → ¬ m < 8 → leN (l.drop m) = 0 := fun h8 hm8 => by
      rw [List.drop_of_length_le (by omega)]; rfl
    refine sA [] rfl ?_; refine ev_load rfl rfl tabOk rfl rfl ‹_› ?_; refine sA [] rfl ?_; refine ev_load rfl rfl tabOk rfl rfl ‹_› ?_; refine sA [] rfl ?_; refine ev_arith rfl rfl rfl rfl rfl (by simp only [lowK, hiK]; omega) ?_; refine ev_index rfl rfl tabOk rfl rfl rfl (by omega) (by omega) ?_; refine ev_convB rfl rfl tabOk rfl rfl rfl rfl ?_; refine sC [] rfl ?_; refine sC [] rfl ?_
    rw [hidx, hbyte]
    refine ev_join2 (α := Unit) (fun _ => [(1, .int .i64 bytes), (2, .pointer (some ⟨b, 0, none⟩)), (4, .pointer (some ⟨r, 0, none⟩)), (5, .int .i64 0), (6, .int .i64 0), (7, .int .i64 (leN (l.drop m))), (8, .int .i64 ((m : Int) - 1)), (9, .int .i64 (l.getD (m - 1) 0).toNat)])
      (fun _ w5 => w5 = w4 ∧ ¬ (m = 8 ∧ 127 < (l.getD (m - 1) 0).toNat)) ?_ ?_
    · refine ev_guardD rfl rfl (fun h7 => ?_) (fun h7 => ?_)
      · refine sC [] rfl ?_
        refine ev_condD rfl (fun h9 => ?_) (fun h9 => ?_)
        · refine sA [] rfl ?_; refine ev_loadAggB rfl rfl tabOk rfl rfl ‹_› (by rfl) ?_
          refine ev_storeAgg tabOk rfl rfl rfl rfl rfl rfl hR3 rfl (fun w6 hR6 hf6 => ?_)
          refine sA [] rfl ?_
          have hm8 : m = 8 := by omega
          subst hm8
          have e0 := leN_top8 (l := l) (by omega)
          have h9' : (127 : Int) < ((l.getD 7 0).toNat : Int) := h9
          have e : rnE s i bytes = 10 := by unfold rnE; rw [if_pos hp, if_neg h1, hl, if_pos (by rw [e0]; omega)]
          refine retG tabOk (.inr rfl) rfl [mR s i, .int .i64 0, .int .i64 10] ⟨⟨_, rfl, .inl ⟨rfl, _, rfl, rfl, Cs.of_blk hR6⟩⟩, rfl, rfl, trivial⟩ ⟨?_, fresh_set (hf12.tr hf3) hrw hf6⟩
          rw [e, (bad (by omega) e).1, (bad (by omega) e).2]; rfl
        · refine sA [] rfl ?_
          exact ev_out () ⟨rfl, fun x => by omega⟩ ⟨rfl, rfl, rfl, rfl, rfl, rfl, rfl, rfl, trivial⟩
      · refine sA [] rfl ?_
        exact ev_out () ⟨rfl, fun x => by omega⟩ ⟨rfl, rfl, rfl, rfl, rfl, rfl, rfl, rfl, trivial⟩
    rintro _ w5 ⟨rfl, hno⟩
    refine sA [] rfl ?_; refine ev_arith rfl rfl rfl rfl rfl (by simp only [lowK, hiK]; omega) ?_; refine sA [] rfl ?_; refine ev_arith rfl rfl rfl rfl rfl (by simp only [lowK, hiK]; omega) ?_; refine sA [] rfl ?_; refine ev_arith rfl rfl rfl rfl rfl (by simp only [lowK, hiK]; omega) ?_; refine sA [] rfl ?_
    refine ev_next (m - 1) (by omega) ⟨by omega, rfl, fun h8 hm8 => ?_⟩ ⟨rfl, rfl, rfl, rfl, rfl, ?_, ?_, trivial⟩
    · rw [hstep]
      by_cases h88 : m = 8
      · have h11 := hbig9 h8 (by omega)
        rw [h11, h88]
        have : 256 ^ (7 - (8 - 1)) = 1 := rfl
        rw [this]
        have : ¬ 127 < (l.getD (m - 1) 0).toNat := fun x => hno ⟨h88, x⟩
        rw [h88] at this; omega
      · have h12 := hbig h8 (by omega)
        have h13 : 256 ^ (7 - (m - 1)) = 256 ^ (7 - m) * 256 := by rw [← Nat.pow_succ]; congr 1; omega
        rw [h13]; omega
    · rw [hstep]
      show some (Value.int .i64 (256 * (leN (l.drop m) : Int) + ((l.getD (m - 1) 0).toNat : Int))) = _
      congr 2; omega
    · show some (Value.int .i64 ((m : Int) - 1 - 1)) = _
      congr 2; omega
  · have hm0 : m = 0 := by omega
    subst hm0
    rw [List.drop_zero] at hbig
    rw [List.drop_zero]
    have hle : leN l ≤ 9223372036854775807 := by
      by_cases h8 : bytes = 8
      · have := hbig h8 (by omega); omega
      · have h3 := leN_lt l
        have : 256 ^ l.length ≤ 256 ^ 4 := Nat.pow_le_pow_right (by omega) (by omega)
        omega
    refine sA [] rfl ?_; refine ev_load rfl rfl tabOk rfl rfl ‹_› ?_; refine sA [] rfl ?_; refine ev_arith rfl rfl rfl rfl rfl (by simp only [lowK, hiK]; omega) ?_; refine sA [] rfl ?_
    refine ev_store tabOk rfl rfl rfl rfl rfl rfl hB3 rfl (fun w5 hB5 hf5 => ?_)
    have hR5 := hR3.fr hf5 (fun e => hbr e.symm)
    clear hB3 hR3
    refine sA [] rfl ?_; refine ev_loadAggB rfl rfl tabOk rfl rfl ‹_› (by rfl) ?_; refine sA [] rfl ?_
    refine ev_storeAgg tabOk rfl rfl rfl rfl rfl rfl hR5 rfl (fun w6 hR6 hf6 => ?_)
    refine sA [] rfl ?_
    have e : rnE s i bytes = 0 := by unfold rnE; rw [if_pos hp, if_neg h1, hl, if_neg (by omega)]
    have hv : rnV s i bytes = leN l := by unfold rnV; rw [if_pos e, hl]
    have ha : rnA s i bytes = i + bytes.toNat := by unfold rnA; rw [if_pos e]
    have hat : ((i : Int) + bytes) = ((rnA s i bytes : Nat) : Int) := by rw [ha]; omega
    refine retG tabOk (.inr rfl) rfl [.agg ⟨[.string (sOf s), .int .i64 (i + bytes)]⟩, .int .i64 (leN l), .int .i64 0] ⟨⟨_, rfl, .inl ⟨rfl, _, rfl, rfl, Cs.of_blk hR6⟩⟩, rfl, rfl, trivial⟩ ⟨?_, fresh_set (fresh_set (hf12.tr hf3) hb hf5) hrw hf6⟩
    rw [e, hv, hat]; rfl
end Go.Wk.YtdelgnflcfhhkaaGreatDoor
namespace Go.Wk.YtdelgnflcfhhkaaGreatDoor
open Go Go.Wk Go.Proofs
/-- a byte, read as a number of 8 bits -/
abbrev rw8 (l : List UInt8) : List Value := l.map fun b => iv b.toInt8
theorem wi8_of (b : UInt8) : b.toInt8.toInt = if 127 < (b.toNat : Int) then (b.toNat : Int) - 256 else b.toNat := by
  rw [← iv_of]
  have := b.toNat_lt
  simp [IntKind.wrap, IntKind.signed, IntKind.bits]
  split <;> split <;> omega
set_option maxHeartbeats 2000000 in
theorem refReadRow (s : List UInt8) (i : Nat) (n : Int) (w : World) (hi : i ≤ s.length) (hs : s.length ≤ 140737488355232) (hn : n ≤ 10000000000000) :
    CallsF Tryz.prog 95 [mR s i, .int .i64 n] w fun v w' => ∃ x : Value, v = .tuple #[mR s (rrA s i n), x, .int .i64 (rrE s i n)] ∧ Own w' 177 1 x (rrV s i n).length (rw8 (rrV s i n)) ∧
      (∀ g, x.ownBlock = some g → w.heap.size ≤ g) ∧ Fr no w w' := by
  refine callsF Tryz.func95 rfl rfl (by decide) rfl ?_
  refine sA [] rfl ?_
  refine ev_box rfl rfl rfl (fun b w1 hb hB hf => ?_)
  refine ev_alloc rfl rfl inf147 (fun r w2 hr hR hf2 => ?_)
  have hf12 := hf.tr hf2
  have hB2 := hB.fr0 hf2
  have hbr : b ≠ r := fun e => by have := hB.lt; omega
  have hrw : w.heap.size ≤ r := by have := hf.size; omega
  clear hB
  refine sA [] rfl ?_; refine ev_loadAggB rfl rfl tabOk rfl rfl ‹_› (by rfl) ?_; refine sA [] rfl ?_
  refine ev_call rfl rfl rfl (refReadRaw s i n _ hi (by omega)) (fun q w3 hq => ?_)
  obtain ⟨rfl, hf3⟩ := hq
  have hB3 := hB2.fr0 hf3; have hR3 := hR.fr0 hf3
  clear hB2 hR
  refine sA [] rfl ?_
  refine ev_storeAgg tabOk rfl rfl rfl rfl rfl rfl hB3 rfl (fun w4 hB4 hf4 => ?_)
  have hR4 := hR3.fr hf4 (fun e => hbr e.symm)
  have hfw4 := fresh_set (hf12.tr hf3) hb hf4
  clear hB3 hR3
  refine sA [] rfl ?_
  refine ev_buildSlice tabOk rfl rfl rfl inf177 rfl rfl rfl (by simp) rfl (fun q w5 hq hb5 hf5 => ?_)
  have ho5 : Own w5 177 1 (.slice (some ⟨q, 0, none⟩) 0 0) 0 [] := own_of_blk (m := 0) (sz := 1) hb5 rfl (by omega)
  have hlen : (rrV s i n).length ≤ 10000000000000 := by
    unfold rrV
    split
    · unfold cut; rw [List.length_take]; omega
    · simp
  refine sA [] rfl ?_
  refine ev_loop (α := Nat × Value) (fun x => [(1, .int .i64 n), (2, .pointer (some ⟨b, 0, none⟩)), (4, .pointer (some ⟨r, 0, none⟩)), (7, .string (sOf (rrV s i n))), (8, .int .i64 (rrE s i n)), (9, x.2), (10, .int .i64 x.1)])
    (fun x w6 => x.1 ≤ (rrV s i n).length ∧ Own w6 177 1 x.2 x.1 (rw8 ((rrV s i n).take x.1)) ∧ Fr no w4 w6 ∧ (∀ g, x.2.ownBlock = some g → w4.heap.size ≤ g)) (fun x => (rrV s i n).length - x.1) (0, .slice (some ⟨q, 0, none⟩) 0 0)
    ⟨rfl, rfl, rfl, rfl, rfl, rfl, rfl, trivial⟩ ⟨Nat.zero_le _, ho5, hf5, fun g hg => by simp only [Value.ownBlock, Option.some.injEq] at hg; omega⟩ ?_
  rintro ⟨k, v⟩ w6 ⟨hk, ho, hf6, hv⟩
  simp only at hk ho hv
  refine sC [] rfl ?_; refine sC [] rfl ?_
  refine ev_condD rfl (fun hlt => ?_) (fun hlt => ?_)
  · have hk1 : k < (rrV s i n).length := by omega
    refine sA [] rfl ?_; refine ev_index rfl rfl tabOk rfl rfl rfl (by omega) (by omega) ?_; refine ev_convB rfl rfl tabOk rfl rfl rfl rfl ?_; refine sC [] rfl ?_; refine sC [] rfl ?_
    refine ev_join1 (α := Unit) (fun _ => [(1, .int .i64 n), (2, .pointer (some ⟨b, 0, none⟩)), (4, .pointer (some ⟨r, 0, none⟩)), (7, .string (sOf (rrV s i n))), (8, .int .i64 (rrE s i n)), (9, v), (10, .int .i64 k), (11, .int .i64 ((rrV s i n).getD k 0).toInt8.toInt)])
      (fun _ w' => w' = w6) ?_ ?_
    · refine ev_condD rfl (fun h1 => ?_) (fun h1 => ?_)
      · have hb8 := ((rrV s i n).getD (k : Int).toNat 0).toNat_lt
        refine sA [] rfl ?_; refine ev_arith rfl rfl rfl rfl rfl (by simp only [lowK, hiK]; omega) ?_; refine sA [] rfl ?_
        refine ev_out () rfl ⟨rfl, rfl, rfl, rfl, rfl, rfl, rfl, ?_, trivial⟩
        rw [wi8_of, if_pos (by simpa using h1)]; rfl
      · refine sA [] rfl ?_
        refine ev_out () rfl ⟨rfl, rfl, rfl, rfl, rfl, rfl, rfl, ?_, trivial⟩
        rw [wi8_of, if_neg (by simpa using h1)]; rfl
    rintro _ w7 rfl
    have hb8 := ((rrV s i n).getD k 0).toInt8.toInt_lt
    have hb9 := ((rrV s i n).getD k 0).toInt8.le_toInt
    refine sA [] rfl ?_; refine ev_conv rfl rfl tabOk rfl rfl rfl (by simp only [lowK, hiK]; omega) ?_
    refine ev_append1 tabOk rfl rfl (fun _ => rfl) rfl rfl inf177 rfl (by omega) (fun _ => rfl) rfl rfl (by simp [Value.cells]) (by simp [flatV, Value.cells, Value.oneCell']) rfl ho (by omega) (fun v2 w4' q2 ho2 hf4' hn4 => ?_)
    have e5 : rw8 ((rrV s i n).take (k + 1)) = rw8 ((rrV s i n).take k) ++ [iv ((rrV s i n).getD k 0).toInt8] := by
      rw [take_snoc hk1]; simp [rw8]
    refine sA [] rfl ?_; refine ev_arith rfl rfl rfl rfl rfl (by simp only [lowK, hiK]; omega) ?_; refine sA [] rfl ?_
    refine ev_next (k + 1, v2) (by simp only; omega) ⟨by simp only; omega, ?_, ?_, ?_⟩ ⟨rfl, rfl, rfl, rfl, rfl, rfl, rfl, trivial⟩
    · rw [e5]; exact ho2
    · exact hf6.trans hf4' (fun u hu e => by have := hv u e; omega)
    · intro g hg
      rcases hn4 g hg with h | h
      · exact hv g h
      · have := hf6.size; omega
  · have hk' : k = (rrV s i n).length := by omega
    subst hk'
    have hB6 := hB4.fr0 hf6; have hR6 := hR4.fr0 hf6
    have hR4lt := hR4.lt
    clear hB4 hR4
    refine sA [] rfl ?_; refine ev_loadAggB rfl rfl tabOk rfl rfl ‹_› (by rfl) ?_; refine sA [] rfl ?_
    refine ev_storeAgg tabOk rfl rfl rfl rfl rfl rfl hR6 rfl (fun w7 hR7 hf7 => ?_)
    refine sA [] rfl ?_
    obtain ⟨A, c, rfl, hc, _⟩ := ho.slice
    refine retG tabOk (.inr rfl) rfl [mR s (rrA s i n), .slice A (rrV s i n).length c, .int .i64 (rrE s i n)] ⟨⟨_, rfl, .inl ⟨rfl, _, rfl, rfl, Cs.of_blk hR7⟩⟩, rfl, rfl, trivial⟩
      ⟨_, rfl, ?_, fun g hg => ?_, fresh_set (hfw4.tr hf6) hrw hf7⟩
    · rw [List.take_length] at ho
      exact ho.fr (hf7) (fun g hg e => by have := hv g hg; have := hR4lt; omega)
    · have := hv g hg; have := hfw4.size; omega
end Go.Wk.YtdelgnflcfhhkaaGreatDoor
namespace Go.Wk.YtdelgnflcfhhkaaGreatDoor
open Go Go.Wk Go.Proofs
def gStep (n : BitVec 64) (c : UInt8) : BitVec 64 := (n ^^^ BitVec.ofNat 64 c.toNat) * 1099511628211#64
theorem gStep_eq (x : BitVec 64) (c : UInt8) : fnvStep (x.toNat : Int) c = ((gStep x c).toNat : Int) := by
  have h1 : bits .xor .u64 (x.toNat : Int) c.toNat = ((x ^^^ BitVec.ofNat 64 c.toNat).toNat : Int) := by
    have ex : BitVec.ofInt 64 (x.toNat : Int) = x := by
      apply BitVec.eq_of_toNat_eq
      simp
    have ec : BitVec.ofInt 64 ((c.toNat : Nat) : Int) = BitVec.ofNat 64 c.toNat := by
      apply BitVec.eq_of_toNat_eq
      simp
    show IntKind.u64.wrap ((BitVec.ofInt 64 (x.toNat : Int) ^^^ BitVec.ofInt 64 ((c.toNat : Nat) : Int)).toNat : Int) = _
    rw [ex, ec]
    have hlt := (x ^^^ BitVec.ofNat 64 c.toNat).isLt
    show (((x ^^^ BitVec.ofNat 64 c.toNat).toNat : Int)) % (2 ^ 64 : Int) = _
    omega
  unfold fnvStep
  rw [h1]
  show (((x ^^^ BitVec.ofNat 64 c.toNat).toNat : Int) * 1099511628211) % (2 ^ 64 : Int) = _
  unfold gStep
  rw [BitVec.toNat_mul]
  generalize (x ^^^ BitVec.ofNat 64 c.toNat).toNat = m
  show _ = (((m * (1099511628211#64).toNat) % 2 ^ 64 : Nat) : Int)
  have : (1099511628211#64).toNat = 1099511628211 := by decide
  rw [this]
  omega
theorem gStep_inj {x y : BitVec 64} {c : UInt8} (h : gStep x c = gStep y c) : x = y := by
  unfold gStep at h
  have h1 : ∀ z : BitVec 64, z * 1099511628211#64 * 14886173955864302971#64 = z := fun z => by
    rw [BitVec.mul_assoc, show (1099511628211#64 * 14886173955864302971#64 : BitVec 64) = 1#64 by decide, BitVec.mul_one]
  have h2 := congrArg (· * 14886173955864302971#64) h
  simp only [h1] at h2
  exact (BitVec.xor_left_inj (BitVec.ofNat 64 c.toNat)).1 h2
theorem gStep_inj2 {x : BitVec 64} {c e : UInt8} (h : gStep x c = gStep x e) : c = e := by
  unfold gStep at h
  have h1 : ∀ z : BitVec 64, z * 1099511628211#64 * 14886173955864302971#64 = z := fun z => by
    rw [BitVec.mul_assoc, show (1099511628211#64 * 14886173955864302971#64 : BitVec 64) = 1#64 by decide, BitVec.mul_one]
  have h2 := congrArg (· * 14886173955864302971#64) h
  simp only [h1] at h2
  have h3 := (BitVec.xor_right_inj x).1 h2
  have h4 := congrArg BitVec.toNat h3
  simp only [BitVec.toNat_ofNat] at h4
  have := c.toNat_lt; have := e.toNat_lt
  apply UInt8.toNat_inj.1
  omega
theorem gL_inj : ∀ (l : List UInt8) {x y : BitVec 64}, l.foldl gStep x = l.foldl gStep y → x = y
  | [], x, y, h => h
  | c :: r, x, y, h => gStep_inj (gL_inj r h)
theorem fnvL_g : ∀ (l : List UInt8) (x : BitVec 64), l.foldl fnvStep (x.toNat : Int) = ((l.foldl gStep x).toNat : Int)
  | [], x => rfl
  | c :: r, x => by
    rw [List.foldl_cons, gStep_eq, fnvL_g r, List.foldl_cons]
theorem fnvL_eq (l : List UInt8) : fnvL l = ((l.foldl gStep 14695981039346656037#64).toNat : Int) := fnvL_g l 14695981039346656037#64
theorem fnvL_lt (l : List UInt8) : 0 ≤ fnvL l ∧ fnvL l < 18446744073709551616 := by
  rw [fnvL_eq]
  have := (l.foldl gStep 14695981039346656037#64).isLt
  omega
/-- a byte else, another digest -/
theorem fnvL_turn {s : List UInt8} {k : Nat} {b : UInt8} (hk : k < s.length) (hb : s.getD k 0 ≠ b) : fnvL s ≠ fnvL (s.take k ++ [b] ++ s.drop (k + 1)) := by
  intro h
  rw [fnvL_eq, fnvL_eq] at h
  have h2 : s = s.take k ++ [s.getD k 0] ++ s.drop (k + 1) := by
    rw [← take_snoc hk, List.take_append_drop]
  have h3 : ((s.take k ++ [s.getD k 0]) ++ s.drop (k + 1)).foldl gStep 14695981039346656037#64 = ((s.take k ++ [b]) ++ s.drop (k + 1)).foldl gStep 14695981039346656037#64 := by
    rw [← h2]
    apply BitVec.eq_of_toNat_eq
    omega
  simp only [List.foldl_append] at h3
  have h4 := gL_inj _ h3
  exact hb (gStep_inj2 h4)
end Go.Wk.YtdelgnflcfhhkaaGreatDoor
namespace Go.Wk.YtdelgnflcfhhkaaGreatDoor
open Go Go.Wk Go.Proofs
theorem numB_len (n bytes : Int) : (numB n bytes).length ≤ 8 := by
  unfold numB
  split
  · rename_i h
    rw [leB_len]
    unfold numE at h
    split at h
    · omega
    · cases h
  · simp
theorem Own.lt {w : World} {e sz : Nat} {v : Value} {m : Nat} {xs : List Value} (h : Own w e sz v m xs) : ∀ g, v.ownBlock = some g → g < w.heap.size := by
  intro g hg
  rcases h.2 with ⟨rfl, _⟩ | ⟨g', cap, cur, rfl, _, hb, _⟩
  · cases hg
  · cases hg
    exact Blk.lt hb
end Go.Wk.YtdelgnflcfhhkaaGreatDoor
namespace Go.Wk.YtdelgnflcfhhkaaGreatDoor
open Go Go.Wk Go.Proofs
theorem leN_leB {n : Int} (h : 0 ≤ n) : ∀ k, (leN (leB n k) : Int) = n % 256 ^ k
  | 0 => by simp [leB, leN]
  | k + 1 => by
    have ih := leN_leB h k
    obtain ⟨m, rfl⟩ := Int.eq_ofNat_of_zero_le h
    rw [leB_snoc, leN_snoc, leB_len]
    have hb : ((byteAt (m : Int) k).toNat : Int) = (m : Int) / 256 ^ k % 256 := toNat_ofNat (by omega) (by omega)
    have hc : (256 : Int) ^ k = ((256 ^ k : Nat) : Int) := by simp
    rw [hc] at hb ih
    have h1 : (byteAt (m : Int) k).toNat = m / 256 ^ k % 256 := Int.ofNat.inj (hb.trans (by rw [← Int.natCast_ediv]; rfl))
    have h2 : leN (leB (m : Int) k) = m % 256 ^ k := Int.ofNat.inj (ih.trans (Int.natCast_emod _ _).symm)
    rw [h1, h2]
    have h3 : m % 256 ^ (k + 1) = m % 256 ^ k + 256 ^ k * (m / 256 ^ k % 256) := by rw [Nat.pow_succ, Nat.mod_mul]
    rw [← h3]
    simp
theorem cut_mid (pre mid post : List UInt8) {k : Nat} (hk : k = mid.length) : cut (pre ++ (mid ++ post)) pre.length k = mid := by
  subst hk; simp [cut]
theorem numB_eq {n b : Int} (h : numE n b = 0) : numB n b = leB n b.toNat := by unfold numB; rw [if_pos h]
theorem numE_ok {n b : Int} (h : numE n b = 0) : (b = 1 ∨ b = 2 ∨ b = 4 ∨ b = 8) ∧ 0 ≤ n ∧ (b < 8 → n < 256 ^ b.toNat) := by
  unfold numE at h
  split at h
  · rename_i hb
    split at h
    · cases h
    · rename_i h2
      exact ⟨hb, by omega, fun h8 => by
        by_cases hc : 256 ^ b.toNat ≤ n
        · exact absurd (.inr ⟨h8, hc⟩) h2
        · omega⟩
  · cases h
theorem back_num (pre post : List UInt8) {n b : Int} (h : numE n b = 0) (hn : n ≤ 9223372036854775807) {s : List UInt8} (hs : s = pre ++ (numB n b ++ post)) :
    rnE s pre.length b = 0 ∧ rnV s pre.length b = n ∧ rnA s pre.length b = pre.length + (numB n b).length := by
  obtain ⟨hb, h0, hlt⟩ := numE_ok h
  have hB := numB_eq h
  have hl : (numB n b).length = b.toNat := by rw [hB, leB_len]
  have hc : cut s pre.length b.toNat = leB n b.toNat := by rw [hs, hB]; exact cut_mid pre _ post (leB_len _ _).symm
  have hv : (leN (leB n b.toNat) : Int) = n := by
    rw [leN_leB h0]
    refine Int.emod_eq_of_lt h0 ?_
    rcases hb with rfl | rfl | rfl | rfl
    · exact hlt (by omega)
    · exact hlt (by omega)
    · exact hlt (by omega)
    · have : (256 : Int) ^ (8 : Int).toNat = 18446744073709551616 := by decide
      omega
  have hsl : s.length = pre.length + (b.toNat + post.length) := by rw [hs]; simp [hl]
  have hE : rnE s pre.length b = 0 := by
    unfold rnE
    rw [if_pos hb, if_neg (by omega), hc, if_neg (by omega)]
  refine ⟨hE, ?_, ?_⟩
  · unfold rnV; rw [if_pos hE, hc, hv]
  · unfold rnA; rw [if_pos hE, hl]
theorem back_raw (pre mid post : List UInt8) {s : List UInt8} (hs : s = pre ++ (mid ++ post)) {m : Int} (hm : m = mid.length) :
    rrE s pre.length m = 0 ∧ rrV s pre.length m = mid ∧ rrA s pre.length m = pre.length + mid.length := by
  subst hm
  have hsl : s.length = pre.length + (mid.length + post.length) := by rw [hs]; simp
  have hE : rrE s pre.length mid.length = 0 := by unfold rrE; rw [if_neg (by omega), if_neg (by omega)]
  refine ⟨hE, ?_, ?_⟩
  · unfold rrV; rw [if_pos hE, hs]; exact cut_mid pre mid post (by omega)
  · unfold rrA; rw [if_pos hE]; omega
end Go.Wk.YtdelgnflcfhhkaaGreatDoor
namespace Go.Wk.YtdelgnflcfhhkaaGreatDoor
open Go Go.Wk Go.Proofs
theorem rrV_len (s : List UInt8) (i : Nat) (n : Int) : (rrV s i n).length ≤ s.length := by
  unfold rrV
  split
  · unfold cut; simp; omega
  · simp
theorem rw8_iv (l : List UInt8) : rw8 l = (l.map UInt8.toInt8).map iv := by simp [rw8]
end Go.Wk.YtdelgnflcfhhkaaGreatDoor
