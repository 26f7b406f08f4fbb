/-
  The walks of chapter 14: the document's clean form; how texts end; half characters.
-/
import Derived.Test.YtpnhfkmgnkdleaaDoorStD
set_option linter.unusedVariables false
namespace Go.Wk.YtpnhfkmgnkdleaaDoor
open Go Go.Wk Go.Proofs Go.Lib

theorem refClean (s : List UInt8) (w : World) (hs : s.length ≤ 10000000000000) : CallsF Tryd.prog 21 [.string (sOf s)] w fun r w' => r = .string (sOf (clean s)) ∧ Fr no w w' := by
  have hcl := clean_len s
  refine callsF Tryd.func21 rfl rfl (by decide) rfl ?_
  refine sA [] rfl ?_
  refine ev_loop (α := List UInt8 × List UInt8) (fun y => [(0, .string (sOf y.1)), (3, .string (sOf y.2))])
    (fun y w' => y.1.length ≤ s.length ∧ y.2 ++ clean y.1 = clean s ∧ Fr no w w') (fun y => y.1.length) (s, []) ⟨rfl, rfl, trivial⟩ ⟨Nat.le_refl _, rfl, Fr.refl _ _⟩ ?_
  rintro ⟨l, out⟩ w1 ⟨hl, hout, hf⟩
  simp only at hl hout
  have hol : out.length + (clean l).length = (clean s).length := by rw [← hout, List.length_append]
  refine sC [] rfl ?_; refine sD [] rfl ?_; refine sD [] rfl ?_
  refine ev_condD rfl (fun h0 => ?_) (fun h0 => ?_)
  · have h0 : ¬ l = [] := h0
    have hp := List.length_pos_iff.2 h0
    have hcc := clean_cons hp
    have hfl := fits_le l
    refine sA [] rfl ?_
    refine ev_call rfl rfl rfl (refFits l _ (by omega)) (fun q w2 hq => ?_)
    obtain ⟨rfl, hf2⟩ := hq
    have hf02 := hf.tr hf2
    clear hf hf2
    have ed1 : (l.take (l.length : Int).toNat).drop (1 : Int).toNat = l.drop 1 := by rw [Int.toNat_natCast, List.take_length]; rfl
    have bad : ¬ good l → H Tryd.prog Tryd.f21 (fun e w' => ∃ v, e = .returned v ∧ v = .string (sOf (clean s)) ∧ Fr no w w') Tryd.f21.ntmps [] .normal [] w2 → True := fun _ _ => trivial
    clear bad
    obtain ⟨n, hn⟩ : ∃ n, n = fits l := ⟨_, rfl⟩
    rw [← hn] at hfl ⊢
    have hgw : good l ↔ (0 < n ∧ n = siz (l.getD 0 0)) := by unfold good; rw [← hn]
    have hwn : good l → wid l = n := fun h => by unfold wid; rw [if_pos h, hn]
    have hw1 : ¬ good l → wid l = 1 := fun h => by unfold wid; rw [if_neg h]
    have hsz := siz_le (l.getD 0 0)
    refine sC [] rfl ?_; refine sD [] rfl ?_; refine sD [] rfl ?_; refine sD [] rfl ?_
    refine ev_guardD rfl rfl (fun h1 => ?_) (fun h1 => ?_)
    · refine sA [] rfl ?_
      refine ev_index (s := l) rfl rfl tabOk rfl rfl rfl (by omega) (by omega) ?_
      rw [show (0 : Int).toNat = 0 from rfl]
      skip
      refine ev_call rfl rfl rfl (refSiz _ _) (fun q w3 hq => ?_)
      obtain ⟨rfl, rfl⟩ := hq
      refine sD [] rfl ?_; refine sD [] rfl ?_; refine sD [] rfl ?_
      refine ev_condD rfl (fun h2 => ?_) (fun h2 => ?_)
      · have hg : good l := hgw.2 ⟨by omega, by omega⟩
        rw [if_pos hg, hwn hg] at hcc
        refine sA [] rfl ?_
        refine ev_sliceStr (s := l) (i := 0) (j := n) rfl rfl tabOk rfl rfl rfl rfl (by omega) (by omega) (by omega) ?_
        rw [Int.toNat_natCast, show (0 : Int).toNat = 0 from rfl, List.drop_zero]
        refine ev_concat (s := out) rfl rfl rfl rfl (by rw [List.length_take]; omega) ?_
        refine sA [] rfl ?_
        refine ev_sliceStr (s := l) rfl rfl tabOk rfl rfl rfl rfl (by omega) (by omega) (by omega) ?_
        rw [show (l.take (l.length : Int).toNat).drop (n : Int).toNat = l.drop n by rw [Int.toNat_natCast, Int.toNat_natCast, List.take_length]]
        refine sA [] rfl ?_
        exact ev_next (l.drop n, out ++ l.take n) (by simp only [List.length_drop]; omega) ⟨by simp only [List.length_drop]; omega, by rw [List.append_assoc, ← hcc, hout], hf02⟩ ⟨rfl, rfl, trivial⟩
      · have hg : ¬ good l := fun h => h2 (by have := (hgw.1 h).2; omega)
        rw [if_neg hg, hw1 hg] at hcc
        refine sA [] rfl ?_
        refine ev_concat (s := out) (u := repl) rfl rfl rfl rfl (by simp [repl]; omega) ?_
        refine sA [] rfl ?_
        refine ev_sliceStr (s := l) rfl rfl tabOk rfl rfl rfl rfl (by omega) (by omega) (by omega) ?_
        rw [ed1]
        refine sA [] rfl ?_
        exact ev_next (l.drop 1, out ++ repl) (by simp only [List.length_drop]; omega) ⟨by simp only [List.length_drop]; omega, by rw [List.append_assoc, ← hcc, hout], hf02⟩ ⟨rfl, rfl, trivial⟩
    · have hg : ¬ good l := fun h => h1 (by have := (hgw.1 h).1; omega)
      rw [if_neg hg, hw1 hg] at hcc
      refine sA [] rfl ?_
      refine ev_concat (s := out) (u := repl) rfl rfl rfl rfl (by simp [repl]; omega) ?_
      refine sA [] rfl ?_
      refine ev_sliceStr (s := l) rfl rfl tabOk rfl rfl rfl rfl (by omega) (by omega) (by omega) ?_
      rw [ed1]
      refine sA [] rfl ?_
      exact ev_next (l.drop 1, out ++ repl) (by simp only [List.length_drop]; omega) ⟨by simp only [List.length_drop]; omega, by rw [List.append_assoc, ← hcc, hout], hf02⟩ ⟨rfl, rfl, trivial⟩
  · have hl0 : l = [] := by
      by_cases h : l = []
      · exact h
      · exact absurd h h0
    subst hl0
    rw [clean_nil, List.append_nil] at hout
    subst hout
    refine sA [] rfl ?_
    exact ret1 (.inr rfl) rfl rfl ⟨rfl, hf⟩

/-- a text ends with another -/
def endsW (s t : List UInt8) : Prop := t.length ≤ s.length ∧ s.drop (s.length - t.length) = t
instance (s t : List UInt8) : Decidable (endsW s t) := by unfold endsW; infer_instance
theorem refEnds (s t : List UInt8) (w : World) (hs : s.length ≤ 9223372036854775806) (ht : t.length ≤ 9223372036854775806) : CallsF Tryd.prog 47 [.string (sOf s), .string (sOf t)] w fun r w' => r = .bool (decide (endsW s t)) ∧ w' = w := by
  refine callsF Tryd.func47 rfl rfl (by decide) rfl ?_
  refine sC [] rfl ?_; refine sC [] rfl ?_; refine sC [] rfl ?_
  refine ev_guardD rfl rfl (fun h1 => ?_) (fun h1 => ?_)
  · refine sA [] rfl ?_; refine ev_arith rfl rfl rfl rfl rfl (by simp only [lowK, hiK]; omega) ?_
    refine ev_sliceStr rfl rfl tabOk rfl rfl rfl rfl (by omega) (by omega) (by omega) ?_
    rw [show (s.take (s.length : Int).toNat).drop ((s.length : Int) - (t.length : Int)).toNat = s.drop (s.length - t.length) by rw [Int.toNat_natCast, List.take_length]; congr 1; omega]
    refine sA [] rfl ?_
    refine ret1 (.inr rfl) rfl rfl ⟨?_, rfl⟩
    congr 1
    apply decide_eq_decide.2
    exact ⟨fun h => ⟨by omega, h⟩, fun h => h.2⟩
  · refine sA [] rfl ?_
    refine ret1 (.inr rfl) rfl rfl ⟨?_, rfl⟩
    rw [decide_eq_false (fun h => h1 (by have := h.1; omega))]
theorem slHasSuffix (s t : List UInt8) (w : World) (hs : s.length ≤ 9223372036854775806) (ht : t.length ≤ 9223372036854775806) : CallsF Tryd.prog 93 [.string (sOf s), .string (sOf t)] w fun r w' => r = .bool (decide (endsW s t)) ∧ w' = w := by
  refine callsF Tryd.func93 rfl rfl (by decide) rfl ?_
  refine sC [] rfl ?_; refine sC [] rfl ?_; refine sC [] rfl ?_
  refine ev_guardD rfl rfl (fun h1 => ?_) (fun h1 => ?_)
  · refine sA [] rfl ?_; refine ev_arith rfl rfl rfl rfl rfl (by simp only [lowK, hiK]; omega) ?_
    refine ev_sliceStr rfl rfl tabOk rfl rfl rfl rfl (by omega) (by omega) (by omega) ?_
    rw [show (s.take (s.length : Int).toNat).drop ((s.length : Int) - (t.length : Int)).toNat = s.drop (s.length - t.length) by rw [Int.toNat_natCast, List.take_length]; congr 1; omega]
    refine sA [] rfl ?_
    refine ret1 (.inr rfl) rfl rfl ⟨?_, rfl⟩
    congr 1
    apply decide_eq_decide.2
    exact ⟨fun h => ⟨by omega, h⟩, fun h => h.2⟩
  · refine sA [] rfl ?_
    refine ret1 (.inr rfl) rfl rfl ⟨?_, rfl⟩
    rw [decide_eq_false (fun h => h1 (by have := h.1; omega))]
theorem hasSuffix (s t : List UInt8) (w : World) (hs : s.length ≤ 9223372036854775806) (ht : t.length ≤ 9223372036854775806) : CallsF Tryd.prog 75 [.string (sOf s), .string (sOf t)] w fun r w' => r = .bool (decide (endsW s t)) ∧ w' = w := by
  refine callsF Tryd.func75 rfl rfl (by decide) rfl ?_
  refine sA [] rfl ?_
  refine ev_call rfl rfl rfl (slHasSuffix s t _ hs ht) (fun q w2 hq => ?_)
  obtain ⟨rfl, rfl⟩ := hq
  refine sA [] rfl ?_
  exact ret1 (.inr rfl) rfl rfl ⟨rfl, rfl⟩

/-- a half character: a beginning of one, and no more -/
def halfP (l : List UInt8) : Prop := 0 < l.length ∧ fits l = l.length ∧ l.length < siz (l.getD 0 0)
instance (l : List UInt8) : Decidable (halfP l) := by unfold halfP; infer_instance
theorem refHalf (l : List UInt8) (w : World) (hs : l.length ≤ 9223372036854775806) : CallsF Tryd.prog 81 [.string (sOf l)] w fun r w' => r = .bool (decide (halfP l)) ∧ Fr no w w' := by
  refine callsF Tryd.func81 rfl rfl (by decide) rfl ?_
  refine sC [] rfl ?_; refine sC [] rfl ?_; refine sD [] rfl ?_
  refine ev_guardD rfl rfl (fun h1 => ?_) (fun h1 => ?_)
  · have h1 : ¬ l = [] := h1
    have hp := List.length_pos_iff.2 h1
    refine sA [] rfl ?_
    refine ev_call rfl rfl rfl (refFits l _ (by omega)) (fun q w2 hq => ?_)
    obtain ⟨rfl, hf2⟩ := hq
    refine sC [] rfl ?_; refine sD [] rfl ?_
    refine ev_guardD rfl rfl (fun h2 => ?_) (fun h2 => ?_)
    · refine sA [] rfl ?_; refine ev_index rfl rfl tabOk rfl rfl rfl (by omega) (by omega) ?_
      refine ev_call rfl rfl rfl (refSiz _ _) (fun q w3 hq => ?_)
      obtain ⟨rfl, rfl⟩ := hq
      rw [show (0 : Int).toNat = 0 from rfl]
      refine sA [] rfl ?_
      refine ret1 (.inr rfl) rfl rfl ⟨?_, hf2⟩
      congr 1
      apply decide_eq_decide.2
      unfold halfP
      omega
    · refine sA [] rfl ?_
      refine ret1 (.inr rfl) rfl rfl ⟨?_, hf2⟩
      rw [decide_eq_false (fun h => h2 (by have := h.2.1; omega))]
  · have hl0 : l = [] := by
      by_cases h : l = []
      · exact h
      · exact absurd h h1
    subst hl0
    refine sA [] rfl ?_
    refine ret1 (.inr rfl) rfl rfl ⟨?_, Fr.refl _ _⟩
    rw [decide_eq_false (fun h => by have := h.1; simp at this)]
end Go.Wk.YtpnhfkmgnkdleaaDoor
