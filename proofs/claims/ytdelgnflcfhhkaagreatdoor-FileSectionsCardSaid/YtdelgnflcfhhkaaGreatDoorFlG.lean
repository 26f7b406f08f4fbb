/-
  Chapter 17: files, in plain: there and back, and what a spoilt file is.
-/
import Derived.Test.YtdelgnflcfhhkaaGreatDoorFlD
import Derived.Test.YtdelgnflcfhhkaaGreatDoorPWb
set_option linter.unusedVariables false
namespace Go.Wk.YtdelgnflcfhhkaaGreatDoor
open Go Go.Wk Go.Proofs

theorem decT_back {m : Md} (h : (validQ m).2.2 = 0) : decT (encM m) = (m, 0) := by
  have hb := bk_mod (vm_of h) [] []
  rw [List.nil_append, List.append_nil, List.nil_append] at hb
  have hb : rMod (encM m) ⟨0, 0⟩ = (⟨(encM m).length, 0⟩, m) := hb
  unfold decT
  rw [hb]
  have e : endE (encM m) ⟨(encM m).length, 0⟩ = 0 := by unfold endE; rw [if_pos rfl, if_neg (Nat.lt_irrefl _)]
  rw [if_pos e, if_pos h]
theorem sumB_len (s : List UInt8) : (sumB s).length = 8 := leB_len _ _
theorem encQ_len (m : Md) : (encQ m).length = 8 + (encM m).length := by unfold encQ; rw [List.length_append]; rfl
theorem fileQ_len (m : Md) : (fileQ m).length = 16 + (encM m).length := by unfold fileQ; rw [List.length_append, encQ_len, sumB_len]; omega
theorem take_file (m : Md) : (fileQ m).take ((fileQ m).length - 8) = encQ m := by
  rw [fileQ_len, show 16 + (encM m).length - 8 = (encQ m).length by rw [encQ_len]; omega]
  unfold fileQ
  rw [List.take_left]
theorem drop_file (m : Md) : (fileQ m).drop ((fileQ m).length - 8) = sumB (encQ m) := by
  rw [fileQ_len, show 16 + (encM m).length - 8 = (encQ m).length by rw [encQ_len]; omega]
  unfold fileQ
  rw [List.drop_left]
theorem mid_take (s : List UInt8) : midQ s = (s.take (s.length - 8)).drop 8 := (take_drop_cut s 8 (s.length - 8)).symm
theorem mid_file (m : Md) : midQ (fileQ m) = encM m := by
  rw [mid_take, take_file]
  rfl
theorem decA_back {m : Md} (h : (validQ m).2.2 = 0) : decA (fileQ m) = (m, 0) := by
  unfold decA
  rw [if_neg (by rw [fileQ_len]; omega), if_neg (by
    intro e
    refine e ?_
    have h1 : (fileQ m).take 8 = ((fileQ m).take ((fileQ m).length - 8)).take 8 := by rw [List.take_take, Nat.min_eq_left (by rw [fileQ_len]; omega)]
    rw [h1, take_file]
    rfl), take_file, drop_file, if_neg (fun e => e rfl), mid_file]
  exact decT_back h
theorem decT_inv {t : List UInt8} (h : (decT t).2 = 0) : ∃ m, decT t = (m, 0) ∧ (validQ m).2.2 = 0 ∧ t = encM m ∧ rMod t ⟨0, 0⟩ = (⟨t.length, 0⟩, m) := by
  unfold decT at h ⊢
  split at h
  · rename_i h1
    split at h
    · rename_i h2
      rw [if_pos h1, if_pos h2]
      have he : (rMod t ⟨0, 0⟩).1.e = 0 := by
        unfold endE at h1
        split at h1
        · assumption
        · exact h1
      have hi : (rMod t ⟨0, 0⟩).1.i = t.length := by
        have hle := good_mod.le t ⟨0, 0⟩ (Nat.zero_le _)
        unfold endE at h1
        rw [if_pos he] at h1
        split at h1
        · cases h1
        · rename_i h3; omega
      have hr := rv_mod t ⟨0, 0⟩ (Nat.zero_le _) he
      refine ⟨_, rfl, h2, ?_, ?_⟩
      · rw [hi] at hr
        rw [← hr]
        show t = cut t 0 (t.length - 0)
        unfold cut
        rw [List.drop_zero, Nat.sub_zero, List.take_length]
      · have hz : ∀ z : Sc, z.i = t.length → z.e = 0 → z = ⟨t.length, 0⟩ := by rintro ⟨i, e⟩ h1 h2; cases h1; cases h2; rfl
        exact Prod.ext (hz _ hi he) rfl
    · rename_i h2; exact absurd h h2
  · rename_i h1; exact absurd h h1
theorem decA_inv {s : List UInt8} (h : (decA s).2 = 0) : ∃ m, decA s = (m, 0) ∧ (validQ m).2.2 = 0 ∧ s = fileQ m ∧ rMod (midQ s) ⟨0, 0⟩ = (⟨(midQ s).length, 0⟩, m) := by
  unfold decA at h ⊢
  split at h
  · cases h
  rename_i h1
  split at h
  · cases h
  rename_i h2
  split at h
  · cases h
  rename_i h3
  rw [if_neg h1, if_neg h2, if_neg h3]
  obtain ⟨m, e1, e2, e3, e4⟩ := decT_inv h
  refine ⟨m, e1, e2, ?_, e4⟩
  have h2 := Decidable.not_not.1 h2
  have h3 := Decidable.not_not.1 h3
  have h4 : s.take (s.length - 8) = encQ m := by
    have e5 : (s.take (s.length - 8)).take 8 = MAGIC := by rw [List.take_take, Nat.min_eq_left (by omega)]; exact h2
    have := List.take_append_drop 8 (s.take (s.length - 8))
    rw [e5, ← mid_take, e3] at this
    exact this.symm
  have := List.take_append_drop (s.length - 8) s
  rw [← h3, h4] at this
  exact this.symm
/-- a beginning of a file is none -/
theorem tell_pre {m : Md} (h : (validQ m).2.2 = 0) {k : Nat} (hk : k < (fileQ m).length) : (decA ((fileQ m).take k)).2 ≠ 0 := fun e => by
  obtain ⟨m', e1, e2, e3, e4⟩ := decA_inv e
  have l3 := congrArg List.length e3
  rw [List.length_take, fileQ_len m'] at l3
  have hl := fileQ_len m
  have hp : midQ ((fileQ m).take k) = (encM m).take (k - 16) := by
    unfold midQ
    rw [List.length_take, Nat.min_eq_left (by omega)]
    unfold cut
    rw [List.drop_take, List.take_take, Nat.min_eq_left (by omega)]
    have : encM m = cut (fileQ m) 8 ((fileQ m).length - 8 - 8) := (mid_file m).symm
    rw [this]
    unfold cut
    rw [List.take_take, Nat.min_eq_left (by omega), show k - 8 - 8 = k - 16 by omega]
  rw [hp] at e4
  have hx := good_mod.ext ((encM m).take (k - 16)) ((encM m).drop (k - 16)) ⟨0, 0⟩ (Nat.zero_le _) (by rw [e4])
  rw [List.take_append_drop, e4] at hx
  have hb := bk_mod (vm_of h) [] []
  rw [List.nil_append, List.append_nil, List.nil_append] at hb
  have hb : rMod (encM m) ⟨0, 0⟩ = (⟨(encM m).length, 0⟩, m) := hb
  rw [hb] at hx
  have := congrArg (fun z => z.1.i) hx
  simp only [List.length_take] at this
  omega
/-- a file with bytes behind is none -/
theorem tell_more {m : Md} (h : (validQ m).2.2 = 0) (b : UInt8) : (decA (fileQ m ++ [b])).2 ≠ 0 := fun e => by
  obtain ⟨m', e1, e2, e3, e4⟩ := decA_inv e
  have hl := fileQ_len m
  obtain ⟨c, hc⟩ : ∃ c, midQ (fileQ m ++ [b]) = encM m ++ [c] := by
    refine ⟨(fileQ m).getD ((fileQ m).length - 8) 0, ?_⟩
    have e5 : midQ (fileQ m ++ [b]) = cut (fileQ m) 8 ((fileQ m).length - 16 + 1) := by
      unfold midQ
      rw [List.length_append, List.length_singleton, cut_app (by omega), show (fileQ m).length + 1 - 8 - 8 = (fileQ m).length - 16 + 1 by omega]
    rw [e5, cut_snoc (by omega), show 8 + ((fileQ m).length - 16) = (fileQ m).length - 8 by omega, show (fileQ m).length - 16 = (fileQ m).length - 8 - 8 by omega]
    rw [show cut (fileQ m) 8 ((fileQ m).length - 8 - 8) = encM m from mid_file m]
  rw [hc] at e4
  have hb := bk_mod (vm_of h) [] [c]
  rw [List.nil_append, List.nil_append] at hb
  have hb : rMod (encM m ++ [c]) ⟨0, 0⟩ = (⟨(encM m).length, 0⟩, m) := hb
  rw [hb] at e4
  have := congrArg (fun z => z.1.i) e4
  simp at this
theorem sumB_inj {s t : List UInt8} (h : sumB s = sumB t) : fnvL s = fnvL t := by
  have h1 : (leN (leB (fnvL s) 8) : Int) = leN (leB (fnvL t) 8) := congrArg (fun l => (leN l : Int)) h
  have a := fnvL_lt s
  have b := fnvL_lt t
  rw [leN_leB a.1, leN_leB b.1] at h1
  have hp : (256 : Int) ^ 8 = 18446744073709551616 := by decide
  rw [hp] at h1
  omega
/-- a file with one byte else is none -/
theorem tell_turn {m : Md} (h : (validQ m).2.2 = 0) {k : Nat} (hk : k < (fileQ m).length) {b : UInt8} (hb : (fileQ m).getD k 0 ≠ b) : (decA ((fileQ m).take k ++ [b] ++ (fileQ m).drop (k + 1))).2 ≠ 0 := fun e => by
  obtain ⟨m', e1, e2, e3, e4⟩ := decA_inv e
  obtain ⟨s, hs⟩ : ∃ s, s = fileQ m := ⟨_, rfl⟩
  have hl := fileQ_len m
  have t1 := take_file m
  have d1 := drop_file m
  rw [← hs] at e3 hk hb hl t1 d1
  have hset : s.take k ++ [b] ++ s.drop (k + 1) = s.set k b := by
    rw [List.set_eq_take_append_cons_drop, if_pos hk, List.append_assoc]; rfl
  have t2 := take_file m'
  have d2 := drop_file m'
  have ln : (fileQ m').length = s.length := by rw [← e3, hset, List.length_set]
  rw [ln] at t2 d2
  rw [← e3, hset] at t2 d2
  by_cases c : k < s.length - 8
  · have d3 : (s.set k b).drop (s.length - 8) = s.drop (s.length - 8) := by rw [List.drop_set, if_pos c]
    rw [d3, d1] at d2
    have hf := sumB_inj d2
    rw [← t1, ← t2, List.take_set] at hf
    refine fnvL_turn (s := s.take (s.length - 8)) (k := k) (b := b) (by rw [List.length_take]; omega) ?_ ?_
    · rw [List.getD_eq_getElem?_getD, List.getElem?_take_of_lt c, ← List.getD_eq_getElem?_getD]; exact hb
    · rw [hf, List.set_eq_take_append_cons_drop, if_pos (by rw [List.length_take]; omega), List.append_assoc]; rfl
  · have t3 : (s.set k b).take (s.length - 8) = s.take (s.length - 8) := by rw [List.take_set, List.set_eq_of_length_le (by rw [List.length_take]; omega)]
    rw [t3, t1] at t2
    rw [← t2, ← d1] at d2
    have := congrArg (fun l => l.getD (k - (s.length - 8)) 0) d2
    simp only [List.getD_eq_getElem?_getD, List.getElem?_drop] at this
    rw [show s.length - 8 + (k - (s.length - 8)) = k by omega, List.getElem?_set_self hk] at this
    exact hb (by rw [List.getD_eq_getElem?_getD]; exact this.symm)
end Go.Wk.YtdelgnflcfhhkaaGreatDoor
