/-
  Chapter 16: a model cut: what it says.
-/
import Derived.Test.YtfgllkflnkolhaaDoorShYo
set_option linter.unusedVariables false
namespace Go.Wk.YtfgllkflnkolhaaDoor
open Go Go.Wk Go.Proofs

/-- a model with its first blocks alone -/
def cutP (m : Md) (n : Nat) : Md := { m with s := { m.s with lay := n }, bs := m.bs.take n }
theorem cut_cut (m : Md) {n k : Nat} (h : k ≤ n) : cutP (cutP m n) k = cutP m k := by
  unfold cutP
  simp only [List.take_take, Nat.min_eq_left h]
theorem cut_reach (m : Md) (n : Nat) : reachQ (cutP m n) = rN m n := rfl
theorem rN_pre (m : Md) {n : Nat} : ∀ y, n ≤ y → y ≤ m.bs.length → ∀ i, i < 1 + 2 * n → (rN m y).getD i 0 = (rN m n).getD i 0
  | 0, h, _, i, _ => by rw [Nat.le_zero.1 h]
  | y + 1, h, hy, i, hi => by
    by_cases e : n = y + 1
    · rw [e]
    · have ih := rN_pre m y (by omega) (by omega) i hi
      have l1 := rN_len m y (by omega)
      rw [← ih, rN_succ m (by omega), List.getD_eq_getElem?_getD, List.getD_eq_getElem?_getD, List.getElem?_append_left (by omega)]
theorem cut_okS {s : Shp} {n : Nat} (h : okS s) (h1 : 1 ≤ n) (h2 : (n : Int) ≤ s.lay) : okS { s with lay := n } := by
  obtain ⟨a, b, c, d, e, f, ⟨g1, g2⟩, i⟩ := h
  exact ⟨a, b, c, d, e, f, ⟨by show (1 : Int) ≤ n; omega, by show (n : Int) ≤ 8; omega⟩, i⟩
theorem cut_half {s : Shp} {n : Nat} (h : okS s) (h' : okS { s with lay := n }) : halfS { s with lay := n } = halfS s := by
  unfold halfS
  rw [if_pos h, if_pos h']
theorem cut_parts {m : Md} {n : Nat} {half : Int} (hs : okS m.s) (h : (partsQ m half).2.2 = 0) (h2 : (n : Int) ≤ m.s.lay) : (partsQ (cutP m n) half).2.2 = 0 := by
  have hp := parts_ok h hs
  unfold partsQ at h ⊢
  split at h
  · cases h
  rename_i h1
  split at h
  · cases h
  rename_i h3
  split at h
  · cases h
  rename_i h4
  split at h
  · cases h
  rename_i h5
  rw [if_neg (show ¬ ¬ ((cutP m n).e.length : Int) = (cutP m n).s.voc * (cutP m n).s.dim from h1), if_neg (show ¬ ¬ (0 ≤ (cutP m n).es ∧ (cutP m n).es ≤ 24) from h3), if_neg (show ¬ ¬ ((cutP m n).cos.length : Int) = (cutP m n).s.ctx * half from h4), if_neg (show ¬ ¬ ((cutP m n).sin.length : Int) = (cutP m n).s.ctx * half from h5)]
  have hl := hp.lay
  have hN : blkN (cutP m n).s (cutP m n).bs = n := by
    show max ((n : Int)).toNat (m.bs.take n).length = n
    rw [List.length_take]; omega
  have hf : (List.range (blkN (cutP m n).s (cutP m n).bs)).find? (fun i => !decide (blkAt (cutP m n).s (cutP m n).bs i = 0)) = none := by
    rw [hN, List.find?_eq_none]
    intro i hi
    have hi := List.mem_range.1 hi
    have e : blkAt (cutP m n).s (cutP m n).bs i = 0 := by
      unfold blkAt
      have e2 : (cutP m n).bs[i]? = some (m.bs[i]'(by omega)) := by
        show (m.bs.take n)[i]? = _
        rw [List.getElem?_take_of_lt hi, List.getElem?_eq_getElem (by omega)]
      rw [e2]
      show (if (i : Int) < (n : Int) then blockQ _ _ else 161) = 0
      rw [if_pos (by omega)]
      exact hp.bs _ (List.getElem_mem _)
    rw [e]; simp
  rw [hf]
  exact congrArg (fun z => z.2.2) hp.tail
theorem cut_valid {m : Md} {n : Nat} (h : (validQ m).2.2 = 0) (h1 : 1 ≤ n) (h2 : (n : Int) ≤ m.s.lay) : (validQ (cutP m n)).2.2 = 0 := by
  obtain ⟨ha, hr⟩ := valid_ok.1 h
  obtain ⟨o, hw, hp⟩ := allQ_ok ha
  have o' := cut_okS o h1 h2
  have hl := hp.lay
  have hq : (partsQ m (halfS m.s)).2.2 = 0 := by
    unfold allQ at ha
    rwa [if_pos o, if_pos hw] at ha
  refine valid_ok.2 ⟨?_, far_iff.2 fun i hi => ?_⟩
  · unfold allQ
    rw [if_pos (show okS (cutP m n).s from o'), if_pos (show (wordsQ (cutP m n).s (cutP m n).V).2.2 = 0 from hw), show halfS (cutP m n).s = halfS m.s from cut_half o o']
    exact cut_parts o hq h2
  · have h3 := far_iff.1 hr
    rw [cut_reach] at hi ⊢
    rw [rN_len m n (by omega)] at hi
    rw [← rN_pre m m.bs.length (by omega) (Nat.le_refl _) i hi, rN_all]
    exact h3 i (by rw [← rN_all, rN_len _ _ (Nat.le_refl _)]; omega)
/-- what Cut says -/
def cutQ (m : Md) (k : Int) : Md × Int := if (validQ m).2.2 = 0 then if k < 1 ∨ m.s.lay < k then (zM.p, 160) else (cutP m k.toNat, 0) else (zM.p, (validQ m).2.2)
end Go.Wk.YtfgllkflnkolhaaDoor
