/-
  Chapter 16: reaches rise; halved numbers, greater shifts let none rise (plain law); stores into rows of several cells.
-/
import Derived.Test.YtfgllkflnkolhaaDoorShYm
set_option linter.unusedVariables false
namespace Go.Wk.YtfgllkflnkolhaaDoor
open Go Go.Wk Go.Proofs

/-! ### rounding -/
theorem near_lo {x d : Int} (hd : 1 ≤ d) : x ≤ d * nearQ x d + d / 2 ∧ (2 * x = 2 * (d * nearQ x d) + d → nearQ x d % 2 = 0) ∧ d * nearQ x d ≤ x + d / 2 ∧ 2 * (d * nearQ x d) ≤ 2 * x + d ∧ 2 * x ≤ 2 * (d * nearQ x d) + d := by
  have h := Int.mul_ediv_add_emod x d
  have h1 := Int.emod_nonneg x (show d ≠ 0 by omega)
  have h2 := Int.emod_lt_of_pos x (show 0 < d by omega)
  unfold nearQ
  split
  · rename_i c
    have e : d * (x / d + 1) = d * (x / d) + d := by rw [Int.mul_add, Int.mul_one]
    rw [e]
    refine ⟨by omega, fun z => ?_, by omega, by omega, by omega⟩
    rcases c with c | c
    · omega
    · omega
  · rename_i c
    have c1 : ¬ d - x % d < x % d := fun z => c (.inl z)
    have c2 : x % d = d - x % d → ¬ x / d % 2 = 1 := fun z1 z2 => c (.inr ⟨z1, z2⟩)
    refine ⟨by omega, fun z => ?_, by omega, by omega, by omega⟩
    have := c2 (by omega)
    omega
theorem near_mono {x y d : Int} (hd : 1 ≤ d) (h : x ≤ y) : nearQ x d ≤ nearQ y d := by
  unfold nearQ
  have hx := Int.mul_ediv_add_emod x d
  have hy := Int.mul_ediv_add_emod y d
  have hx1 := Int.emod_nonneg x (show d ≠ 0 by omega)
  have hx2 := Int.emod_lt_of_pos x (show 0 < d by omega)
  have hy1 := Int.emod_nonneg y (show d ≠ 0 by omega)
  have hy2 := Int.emod_lt_of_pos y (show 0 < d by omega)
  have hq : x / d ≤ y / d := Int.ediv_le_ediv (by omega) h
  by_cases e : x / d = y / d
  · have hm : x % d ≤ y % d := by rw [e] at hx; omega
    rw [e]
    split <;> split <;> omega
  · split <;> split <;> omega
theorem near_dbl {x d : Int} (hd : 1 ≤ d) (h0 : 0 ≤ x) : nearQ x (d * 2) ≤ nearQ x d := by
  have a := near_lo (x := x) hd
  have b := near_lo (x := x) (d := d * 2) (by omega)
  obtain ⟨q, hq⟩ : ∃ q, q = nearQ x d := ⟨_, rfl⟩
  obtain ⟨p, hp⟩ : ∃ p, p = nearQ x (d * 2) := ⟨_, rfl⟩
  rw [← hq] at a ⊢
  rw [← hp] at b ⊢
  have hq0 : 0 ≤ q := by rw [hq]; exact ((nearQ_bd (x := x) hd).1 h0).1
  have e : d * 2 * p = 2 * (d * p) := by rw [Int.mul_comm d 2, Int.mul_assoc]
  rw [e] at b
  rcases Int.lt_or_le q p with c | c
  · exfalso
    have h1 : d * (q + 1) ≤ d * p := Int.mul_le_mul_of_nonneg_left (by omega) (by omega)
    rw [Int.mul_add, Int.mul_one] at h1
    have h3 : 0 ≤ d * q := Int.mul_nonneg (by omega) hq0
    -- 4 d p ≤ 2 x + 2 d ; 2 x ≤ 2 d q + d
    have h4 := b.2.2.2.1
    have h5 := a.2.2.2.2
    omega
  · exact c
theorem round_mono {x y : Int} (s : Nat) (h : x ≤ y) : roundQ x s ≤ roundQ y s := near_mono (by have := Int.pow_pos (n := 2) (m := s) (by omega); omega) h
theorem round_step {x : Int} (s : Nat) (h : 0 ≤ x) : roundQ x (s + 1) ≤ roundQ x s := by
  unfold roundQ; rw [Int.pow_succ]; exact near_dbl (by have := Int.pow_pos (n := 2) (m := s) (by omega); omega) h
theorem sum_set : ∀ (l : List Int8) (i : Nat) (y : Int8), y.toInt.natAbs ≤ (l.getD i 0).toInt.natAbs → sumQ (l.set i y) ≤ sumQ l
  | [], i, y, h => by simp [sumQ]
  | x :: l, 0, y, h => by simp only [List.set_cons_zero, sumQ]; simp at h; omega
  | x :: l, i + 1, y, h => by
    have := sum_set l i y (by simpa using h)
    simp only [List.set_cons_succ, sumQ]; omega
theorem part_set (xs : List Int8) (k : Nat) (y : Int8) (h : y.toInt.natAbs ≤ (xs.getD k 0).toInt.natAbs) (i j : Nat) : partQ (xs.set k y) i j ≤ partQ xs i j := by
  unfold partQ
  rw [List.drop_set]
  split
  · exact Int.le_refl _
  · rename_i c
    rw [List.take_set]
    by_cases c2 : k - i < j
    · refine sum_set _ _ _ ?_
      have e : ((xs.drop i).take j).getD (k - i) 0 = xs.getD k 0 := by
        rw [List.getD_eq_getElem?_getD, List.getD_eq_getElem?_getD, List.getElem?_take, if_pos (by omega), List.getElem?_drop, show i + (k - i) = k by omega]
      rw [e]; exact h
    · rw [List.set_eq_of_length_le (by simp; omega)]
      exact Int.le_refl _
theorem more_le {xs ys : List Int8} {n s t : Nat} (hp : ∀ i, partQ ys (i * n) n ≤ partQ xs (i * n) n) (ht : t = s ∨ t = s + 1) : ∀ q, moreQ ys n t q ≤ moreQ xs n s q
  | 0 => by simp [moreQ]
  | q + 1 => by
    have ih := more_le hp ht q
    have hb := partQ_bd xs (q * n) n
    have hb2 := partQ_bd ys (q * n) n
    have h1 : roundQ (127 * partQ ys (q * n) n) t ≤ roundQ (127 * partQ xs (q * n) n) s := by
      have a := round_mono (x := 127 * partQ ys (q * n) n) (y := 127 * partQ xs (q * n) n) t (by have := hp q; omega)
      rcases ht with rfl | rfl
      · exact a
      · exact Int.le_trans a (round_step s (by omega))
    simp only [moreQ]
    split <;> split <;> omega

/-! ### a model changed -/
def hvN (x : Int8) : Int8 := Int8.ofInt (x.toInt.tdiv 2)
theorem hvN_abs (x : Int8) : (hvN x).toInt = x.toInt.tdiv 2 ∧ (hvN x).toInt.natAbs ≤ x.toInt.natAbs := by
  have h := i8_bd' x
  have hb : -128 ≤ x.toInt.tdiv 2 ∧ x.toInt.tdiv 2 ≤ 127 := by
    rcases Int.le_total 0 x.toInt with z | z
    · rw [Int.tdiv_eq_ediv_of_nonneg z]; omega
    · have : x.toInt.tdiv 2 = -((-x.toInt) / 2) := by
        rw [show x.toInt = -(-x.toInt) by omega, Int.neg_tdiv, Int.tdiv_eq_ediv_of_nonneg (by omega)]; simp
      omega
  have e : (hvN x).toInt = x.toInt.tdiv 2 := Int8.toInt_ofInt_of_le hb.1 (by omega)
  refine ⟨e, ?_⟩
  rw [e]
  rcases Int.le_total 0 x.toInt with z | z
  · rw [Int.tdiv_eq_ediv_of_nonneg z]; omega
  · have : x.toInt.tdiv 2 = -((-x.toInt) / 2) := by
      rw [show x.toInt = -(-x.toInt) by omega, Int.neg_tdiv, Int.tdiv_eq_ediv_of_nonneg (by omega)]; simp
    omega
/-- one number halved -/
def hvAt (xs : List Int8) (a : Int) : List Int8 := if 0 ≤ a ∧ a < xs.length then xs.set a.toNat (hvN (xs.getD a.toNat 0)) else xs
theorem hvAt_len (xs : List Int8) (a : Int) : (hvAt xs a).length = xs.length := by unfold hvAt; split <;> simp
theorem hvAt_part (xs : List Int8) (a : Int) (i j : Nat) : partQ (hvAt xs a) i j ≤ partQ xs i j := by
  unfold hvAt; split
  · exact part_set _ _ _ (hvN_abs _).2 i j
  · exact Int.le_refl _
def upS (n : Int) : Int := if n + 1 < 31 then n + 1 else 31
def chB {ρ : Type} (f : ρ → ρ) (b : Bk ρ) : Bk ρ := { b with os := upS b.os, dns := upS b.dns, o := f b.o, dn := f b.dn }
def chM (m : Md) (k : Nat) (a : Int) : Md := { m with bs := m.bs.modify k (chB fun l => hvAt l a) }
theorem upS_bd {n : Int} (h : 0 ≤ n ∧ n ≤ 31) : (0 ≤ upS n ∧ upS n ≤ 31) ∧ ((upS n).toNat = n.toNat ∨ (upS n).toNat = n.toNat + 1) := by unfold upS; split <;> omega
theorem chB_ok {s : Shp} {b : Bk (List Int8)} (a : Int) (h : blockQ s b = 0) : blockQ s (chB (fun l => hvAt l a) b) = 0 := by
  obtain ⟨h1, h2, h3, h4⟩ := block_ok h
  have h5 := block_o h
  rw [block_good (s := s) (b := chB (fun l => hvAt l a) b) h1 (by simpa [lenQ, chB, hvAt_len] using h2) (by simpa [lenQ, chB, hvAt_len] using h3), if_neg]
  have u1 := (upS_bd h5.2.2.1).1
  have u2 := (upS_bd h5.2.2.2).1
  simp only [shiftQ, chB, List.all_cons, List.all_nil, Bool.and_true, Bool.and_eq_true, decide_eq_true_eq, Bool.not_eq_false] at h4 ⊢
  omega
theorem chM_len (m : Md) (k : Nat) (a : Int) : (chM m k a).bs.length = m.bs.length := by simp [chM]
theorem chM_at (m : Md) (k : Nat) (a : Int) (i : Nat) (h : i < m.bs.length) : (chM m k a).bs[i]'(by rw [chM_len]; exact h) = if k = i then chB (fun l => hvAt l a) m.bs[i] else m.bs[i] := by
  simp only [chM, List.getElem_modify]
theorem chM_all {m : Md} (k : Nat) (a : Int) (h : (allQ m).2.2 = 0) : (allQ (chM m k a)).2.2 = 0 := by
  obtain ⟨o, hw, hp⟩ := allQ_ok h
  have e : allQ (chM m k a) = allQ m := by
    have e2 : partsQ (chM m k a) (halfS m.s) = partsQ m (halfS m.s) := by
      have hb : ∀ i, blkAt m.s (chM m k a).bs i = blkAt m.s m.bs i := fun i => by
        unfold blkAt
        by_cases hi : i < m.bs.length
        · rw [List.getElem?_eq_getElem hi, List.getElem?_eq_getElem (by rw [chM_len]; exact hi), chM_at m k a i hi]
          have hz := hp.bs _ (List.getElem_mem hi)
          by_cases e : k = i
          · rw [if_pos e]
            show (if (i : Int) < m.s.lay then blockQ m.s (chB (fun l => hvAt l a) m.bs[i]) else 161) = if (i : Int) < m.s.lay then blockQ m.s m.bs[i] else 161
            rw [chB_ok a hz, hz]
          · rw [if_neg e]
        · rw [List.getElem?_eq_none (Nat.not_lt.1 hi), List.getElem?_eq_none (by rw [chM_len]; exact Nat.not_lt.1 hi)]
      unfold partsQ
      have hn : blkN (chM m k a).s (chM m k a).bs = blkN m.s m.bs := by unfold blkN; rw [chM_len]; rfl
      have hf : (fun i => !decide (blkAt (chM m k a).s (chM m k a).bs i = 0)) = fun i => !decide (blkAt m.s m.bs i = 0) := by
        funext i; rw [show (chM m k a).s = m.s from rfl, hb i]
      rw [hn, hf]
      have hf2 : (fun i : Nat => ((5 : Int), (i : Int), blkAt (chM m k a).s (chM m k a).bs i)) = fun i : Nat => ((5 : Int), (i : Int), blkAt m.s m.bs i) := by
        funext i; rw [show (chM m k a).s = m.s from rfl, hb i]
      rw [hf2]
      rfl
    unfold allQ
    rw [show halfS (chM m k a).s = halfS m.s from rfl, e2]
    rfl
  rw [e]; exact h
theorem chM_more {m : Md} (k : Nat) (a : Int) (hp : PartsOk m) {i : Nat} (h : i < m.bs.length) :
    moreQ ((chM m k a).bs[i]'(by rw [chM_len]; exact h)).o m.s.dim.toNat ((chM m k a).bs[i]'(by rw [chM_len]; exact h)).os.toNat m.s.dim.toNat ≤ moreQ m.bs[i].o m.s.dim.toNat m.bs[i].os.toNat m.s.dim.toNat ∧
    moreQ ((chM m k a).bs[i]'(by rw [chM_len]; exact h)).dn m.s.hid.toNat ((chM m k a).bs[i]'(by rw [chM_len]; exact h)).dns.toNat m.s.dim.toNat ≤ moreQ m.bs[i].dn m.s.hid.toNat m.bs[i].dns.toNat m.s.dim.toNat := by
  have hz := block_o (hp.bs _ (List.getElem_mem h))
  rw [chM_at m k a i h]
  split
  · exact ⟨more_le (fun j => hvAt_part _ a _ _) (upS_bd hz.2.2.1).2 _, more_le (fun j => hvAt_part _ a _ _) (upS_bd hz.2.2.2).2 _⟩
  · exact ⟨Int.le_refl _, Int.le_refl _⟩
theorem chM_last {m : Md} (k : Nat) (a : Int) (hp : PartsOk m) : ∀ y, y ≤ m.bs.length → lN (chM m k a) y ≤ lN m y
  | 0, _ => Int.le_refl _
  | y + 1, h => by
    have ih := chM_last k a hp y (by omega)
    have hm := chM_more k a hp (i := y) (by omega)
    rw [lN_succ m (by omega), lN_succ (chM m k a) (by rw [chM_len]; omega)]
    have e : (chM m k a).s = m.s := rfl
    rw [e]
    omega
theorem chM_each {m : Md} (k : Nat) (a : Int) (hp : PartsOk m) : ∀ y, y ≤ m.bs.length → ∀ i, (rN (chM m k a) y).getD i 0 ≤ (rN m y).getD i 0
  | 0, _, i => Int.le_refl _
  | y + 1, h, i => by
    have ih := chM_each k a hp y (by omega) i
    have hm := chM_more k a hp (i := y) (by omega)
    have hl := chM_last k a hp y (by omega)
    have l1 := rN_len m y (by omega)
    have l2 := rN_len (chM m k a) y (by rw [chM_len]; omega)
    rw [rN_succ m (by omega), rN_succ (chM m k a) (by rw [chM_len]; omega)]
    have e : (chM m k a).s = m.s := rfl
    rw [e]
    rw [List.getD_eq_getElem?_getD, List.getD_eq_getElem?_getD] at ih ⊢
    by_cases c : i < 1 + 2 * y
    · rw [List.getElem?_append_left (by omega), List.getElem?_append_left (by omega)]; exact ih
    · rw [List.getElem?_append_right (by omega), List.getElem?_append_right (by omega), l1, l2]
      match i - (1 + 2 * y) with
      | 0 => simp; omega
      | 1 => simp; omega
      | n + 2 => simp
theorem rise {m : Md} (hs : okS m.s) : ∀ y, y ≤ m.bs.length → ∀ i, i + 1 < 1 + 2 * y → (rN m y).getD i 0 ≤ (rN m y).getD (i + 1) 0
  | 0, _, i, h => by omega
  | y + 1, hy, i, h => by
    have ih := rise hs y (by omega) i
    have l1 := rN_len m y (by omega)
    have hl := rN_last m (y := y) (by omega)
    obtain ⟨_, _, ⟨d1, d2⟩, _, _, _, _, h1, h2⟩ := hs
    have a := moreQ_bd64 (xs := m.bs[y].o) (n := m.s.dim.toNat) (s := m.bs[y].os.toNat) (by omega) m.s.dim.toNat
    have b := moreQ_bd64 (xs := m.bs[y].dn) (n := m.s.hid.toNat) (s := m.bs[y].dns.toNat) (by omega) m.s.dim.toNat
    rw [rN_succ m (by omega)]
    rw [List.getD_eq_getElem?_getD, List.getD_eq_getElem?_getD] at ih ⊢
    by_cases c : i + 1 < 1 + 2 * y
    · rw [List.getElem?_append_left (by omega), List.getElem?_append_left (by omega)]; exact ih c
    · by_cases c2 : i = 2 * y
      · subst c2
        rw [List.getElem?_append_left (by omega), List.getElem?_append_right (by omega), hl, l1, show 2 * y + 1 - (1 + 2 * y) = 0 by omega]
        simp; omega
      · rw [List.getElem?_append_right (by omega), List.getElem?_append_right (by omega), l1, show i - (1 + 2 * y) = 0 by omega, show i + 1 - (1 + 2 * y) = 1 by omega]
        simp; omega
theorem far_iff {l : List Int} : farQ l = none ↔ ∀ i, i < l.length → l.getD i 0 ≤ 268435456 := by
  unfold farQ
  rw [List.find?_eq_none]
  constructor
  · intro h i hi
    have := h i (List.mem_range.2 hi)
    simpa using this
  · intro h i hi
    have := h i (List.mem_range.1 hi)
    rw [decide_eq_false (by omega)]; simp
theorem valid_ok {m : Md} : (validQ m).2.2 = 0 ↔ (allQ m).2.2 = 0 ∧ farQ (reachQ m) = none := by
  unfold validQ
  split
  · rename_i h
    cases farQ (reachQ m) <;> simp [h]
  · rename_i h
    simp [h]
theorem chM_valid {m : Md} (k : Nat) (a : Int) (h : (validQ m).2.2 = 0) : (validQ (chM m k a)).2.2 = 0 := by
  obtain ⟨h1, h2⟩ := valid_ok.1 h
  obtain ⟨_, _, hp⟩ := allQ_ok h1
  refine valid_ok.2 ⟨chM_all k a h1, far_iff.2 fun i hi => ?_⟩
  have h3 := far_iff.1 h2
  have h4 := chM_each k a hp m.bs.length (Nat.le_refl _) i
  rw [rN_all] at h4
  have e : rN (chM m k a) m.bs.length = reachQ (chM m k a) := by rw [← rN_all, chM_len]
  rw [e] at h4
  have l1 : (reachQ m).length = 1 + 2 * m.bs.length := by rw [← rN_all, rN_len _ _ (Nat.le_refl _)]
  have l2 : (reachQ (chM m k a)).length = 1 + 2 * m.bs.length := by rw [← e, rN_len _ _ (by rw [chM_len]; exact Nat.le_refl _)]
  have := h3 i (by omega)
  omega
end Go.Wk.YtfgllkflnkolhaaDoor
