/-
  Chapter 16: the usual bend (chapter 12), angles (chapter 10): the program's and the document's.
-/
import Derived.Test.YtfgllkflnkolhaaDoorShA
import Derived.Test.YtfgllkflnkolhaaDoorCopy
import Derived.Test.YtfgllkflnkolhaaDoorStr
set_option linter.unusedVariables false
namespace Go.Wk.YtfgllkflnkolhaaDoor
open Go Go.Wk Go.Proofs

theorem i8_of {n : Int} (h : -128 ≤ n ∧ n ≤ 127) : Value.int .i8 n = i8v (Int8.ofInt n) := by
  show Value.int .i8 n = Value.int .i8 (Int8.ofInt n).toInt
  rw [Int8.toInt_ofInt_of_le h.1 (by omega)]
/-- a row of 8-bit numbers of the call's own, none of what was there -/
def N8 (w0 w : World) (v : Value) (xs : List Int8) : Prop := Own w 56 1 v xs.length (xs.map i8v) ∧ (∀ g, v.ownBlock = some g → w0.heap.size ≤ g) ∧ Fr no w0 w
theorem N8.fr {w0 w w' : World} {v : Value} {xs : List Int8} (h : N8 w0 w v xs) (hf : Fr no w w') : N8 w0 w' v xs := ⟨h.1.fr0 hf, h.2.1, h.2.2.tr hf⟩
theorem N8.app {w0 w w' : World} {v v' : Value} {xs ys : List Int8} (h : N8 w0 w v xs) (ho : Own w' 56 1 v' (xs.length + ys.length) (xs.map i8v ++ ys.map i8v)) (hf : Fr (fun q => v.ownBlock = some q) w w') (hn : NB w v v') : N8 w0 w' v' (xs ++ ys) := by
  refine ⟨by rw [List.length_append, List.map_append]; exact ho, fun g hg => ?_, h.2.2.trans hf fun b hb z => by have := h.2.1 b z; omega⟩
  rcases hn g hg with z | z
  · exact h.2.1 g z
  · exact Nat.le_trans h.2.2.size z
theorem N8.slice {w0 w : World} {v : Value} {xs : List Int8} (h : N8 w0 w v xs) : ∃ A c, v = .slice A xs.length c ∧ Cs w A (xs.map i8v) ∧ (∀ a, A = some a → v.ownBlock = some a.block ∧ w0.heap.size ≤ a.block) := by
  obtain ⟨A, c, e, h1, h2⟩ := h.1.slice
  refine ⟨A, c, e, h1, fun a ha => ⟨(h2 a ha).1, h.2.1 _ (h2 a ha).1⟩⟩

theorem wExp2 (x : Int) (w : World) (hx : -1099511627776 ≤ x ∧ x ≤ 0) : CallsF Tryd.prog 105 [i64 x] w fun r w' => r = i64 (expQ x) ∧ Fr no w w' := by
  have ht0 := Int.emod_nonneg x (show (65536 : Int) ≠ 0 by omega)
  have ht1 := Int.emod_lt_of_pos x (show (0 : Int) < 65536 by omega)
  have hy := expY_bd ht0 ht1
  have hE : expQ x = if x / 65536 ≤ -31 then 0 else expY (x % 65536) / 2 ^ (-(x / 65536)).toNat := rfl
  refine callsF Tryd.func105 rfl rfl (by decide) rfl ?_
  refine sA [] rfl ?_
  rw [show (if (0 : Int) < x then (0 : Int) else x) = x from if_neg (by omega)]
  refine ev_call rfl rfl rfl (wFloor x 65536 _ ⟨by omega, by omega⟩ ⟨by omega, by omega⟩) (fun r w1 hr => ?_)
  obtain ⟨rfl, hf1⟩ := hr
  have hq : -16777216 ≤ x / 65536 ∧ x / 65536 ≤ 0 := by omega
  obtain ⟨q, hq0⟩ : ∃ q, q = x / 65536 := ⟨_, rfl⟩
  obtain ⟨t, ht⟩ : ∃ t, t = x % 65536 := ⟨_, rfl⟩
  rw [← ht] at ht0 ht1 hy
  rw [← hq0] at hq
  rw [← hq0, ← ht] at hE ⊢
  refine sC [] rfl ?_; refine sC [] rfl ?_; refine sC [] rfl ?_; refine sD [] rfl ?_; refine sD [] rfl ?_
  refine ev_condD rfl (fun c => ?_) (fun c => ?_)
  · rw [if_pos c] at hE
    refine sA [] rfl ?_
    exact ret1 (.inr rfl) rfl rfl ⟨by rw [hE], hf1⟩
  · rw [if_neg c] at hE
    refine sA [] rfl ?_
    refine ev_build rfl rfl (v := .agg #[i64 84941200, i64 241400000, i64 747400624, i64 1073741824]) rfl (fun w => by kernel_rfl) ?_
    refine ev_alloc rfl rfl inf190 (fun b w2 hb hB2 hf2 => ?_)
    refine ev_storeAgg tabOk rfl rfl rfl rfl rfl rfl hB2 rfl (fun w3 hB3 hf3 => ?_)
    have hB3 : Blk w3 b [i64 84941200, i64 241400000, i64 747400624, i64 1073741824] 190 := hB3
    have hF3 : Fr no w w3 := (hf1.tr hf2).trans hf3 fun z hz e => by have : z = b := e; have := hf1.size; omega
    clear hB2 hf3
    have n1 : 0 ≤ 84941200 * t ∧ 84941200 * t ≤ 84941200 * 65536 := by omega
    have mb : ∀ {a m : Int}, 0 ≤ a → a ≤ m → 0 ≤ a * t ∧ a * t ≤ m * 65536 := fun {a m} ha hm => by
      have e1 : 0 ≤ a * t := Int.mul_nonneg ha ht0
      have e2 : a * t ≤ a * 65536 := Int.mul_le_mul_of_nonneg_left (by omega) ha
      omega
    have n2 := mb (a := 241400000 + 84941200 * t / 65536) (m := 326341200) (by omega) (by omega)
    have n3 := mb (a := 747400624 + (241400000 + 84941200 * t / 65536) * t / 65536) (m := 1073741824) (by omega) (by omega)
    clear mb
    refine sA [] rfl ?_
    refine ev_indexAddrP rfl rfl tabOk rfl rfl rfl (by omega) (by omega) ?_
    refine ev_loadB rfl rfl tabOk rfl rfl ‹_› (by rfl) ?_; refine sA [] rfl ?_
    refine ev_rounds 4 ?_
    refine sA [] rfl ?_; refine ev_arith rfl rfl rfl rfl rfl (by simp only [lowK, hiK]; omega) ?_
    refine ev_indexAddrP rfl rfl tabOk rfl rfl rfl (by omega) (by omega) ?_
    refine ev_loadB rfl rfl tabOk rfl rfl ‹_› (by rfl) ?_; refine sA [] rfl ?_; refine ev_arith rfl rfl rfl rfl rfl (by simp only [lowK, hiK]; omega) ?_; refine ev_quo rfl rfl rfl rfl (by omega) (by omega) (by simp only [hiK]; omega) ?_; refine ev_arith rfl rfl rfl rfl rfl (by simp only [lowK, hiK]; omega) ?_; refine sA [] rfl ?_; refine ev_arith rfl rfl rfl rfl rfl (by simp only [lowK, hiK]; omega) ?_; refine sA [] rfl ?_; refine ev_arith rfl rfl rfl rfl rfl (by simp only [lowK, hiK]; omega) ?_
    refine ev_indexAddrP rfl rfl tabOk rfl rfl rfl (by omega) (by omega) ?_
    refine ev_loadB rfl rfl tabOk rfl rfl ‹_› (by rfl) ?_; refine sA [] rfl ?_; refine ev_arith rfl rfl rfl rfl rfl (by simp only [lowK, hiK]; omega) ?_; refine ev_quo rfl rfl rfl rfl (by omega) (by omega) (by simp only [hiK]; omega) ?_; refine ev_arith rfl rfl rfl rfl rfl (by simp only [lowK, hiK]; omega) ?_; refine sA [] rfl ?_; refine ev_arith rfl rfl rfl rfl rfl (by simp only [lowK, hiK]; omega) ?_; refine sA [] rfl ?_; refine ev_arith rfl rfl rfl rfl rfl (by simp only [lowK, hiK]; omega) ?_
    refine ev_indexAddrP rfl rfl tabOk rfl rfl rfl (by omega) (by omega) ?_
    refine ev_loadB rfl rfl tabOk rfl rfl ‹_› (by rfl) ?_; refine sA [] rfl ?_; refine ev_arith rfl rfl rfl rfl rfl (by simp only [lowK, hiK]; omega) ?_; refine ev_quo rfl rfl rfl rfl (by omega) (by omega) (by simp only [hiK]; omega) ?_; refine ev_arith rfl rfl rfl rfl rfl (by simp only [lowK, hiK]; omega) ?_; refine sA [] rfl ?_; refine ev_arith rfl rfl rfl rfl rfl (by simp only [lowK, hiK]; omega) ?_; refine sB [] rfl ?_; refine sD [] rfl ?_
    rw [show IntKind.i64.wrap (0 - q) = -q from (wrapK (by simp only [lowK, hiK]; omega)).trans (by omega)]
    refine ev_y rfl rfl (y_shr rfl rfl (by omega) (by show -q ≤ ((64 : Nat) : Int); omega)) ?_
    rw [show (1073741824 + (747400624 + (241400000 + 84941200 * t / 65536) * t / 65536) * t / 65536 : Int) = expY t from rfl, Int.fdiv_eq_ediv_of_nonneg _ (Int.le_of_lt (Int.pow_pos (by omega)))]
    refine sA [] rfl ?_
    exact ret1 (.inr rfl) rfl rfl ⟨by rw [hE], hF3⟩
theorem refExp2 (x : Int) (w : World) (hx : -1099511627776 ≤ x ∧ x ≤ 0) : CallsF Tryd.prog 99 [i64 x] w fun r w' => r = i64 (expQ x) ∧ w' = w := by
  have ht0 := Int.emod_nonneg x (show (65536 : Int) ≠ 0 by omega)
  have ht1 := Int.emod_lt_of_pos x (show (0 : Int) < 65536 by omega)
  have hy := expY_bd ht0 ht1
  have hE : expQ x = if x / 65536 ≤ -31 then 0 else expY (x % 65536) / 2 ^ (-(x / 65536)).toNat := rfl
  refine callsF Tryd.func99 rfl rfl (by decide) rfl ?_
  refine sC [] rfl ?_; refine sC [] rfl ?_; refine sD [] rfl ?_; refine sD [] rfl ?_
  rw [show decide (0 < x) = false from decide_eq_false (by omega)]
  refine sA [] rfl ?_
  refine ev_call rfl rfl rfl (refFloor x 65536 _ ⟨by omega, by omega⟩ ⟨by omega, by omega⟩) (fun r w1 hr => ?_)
  obtain ⟨rfl, rfl⟩ := hr
  have hq : -16777216 ≤ x / 65536 ∧ x / 65536 ≤ 0 := by omega
  obtain ⟨q, hq0⟩ : ∃ q, q = x / 65536 := ⟨_, rfl⟩
  obtain ⟨t, ht⟩ : ∃ t, t = x % 65536 := ⟨_, rfl⟩
  rw [← ht] at ht0 ht1 hy
  rw [← hq0] at hq
  rw [← hq0, ← ht] at hE ⊢
  have n1 : 0 ≤ 84941200 * t ∧ 84941200 * t ≤ 84941200 * 65536 := by omega
  have mb : ∀ {a m : Int}, 0 ≤ a → a ≤ m → 0 ≤ a * t ∧ a * t ≤ m * 65536 := fun {a m} ha hm => by
    have e1 : 0 ≤ a * t := Int.mul_nonneg ha ht0
    have e2 : a * t ≤ a * 65536 := Int.mul_le_mul_of_nonneg_left (by omega) ha
    omega
  have n2 := mb (a := 241400000 + 84941200 * t / 65536) (m := 326341200) (by omega) (by omega)
  have n3 := mb (a := 747400624 + (241400000 + 84941200 * t / 65536) * t / 65536) (m := 1073741824) (by omega) (by omega)
  clear mb
  refine sA [] rfl ?_; refine ev_arith rfl rfl rfl rfl rfl (by simp only [lowK, hiK]; omega) ?_; refine ev_quo rfl rfl rfl rfl (by omega) (by omega) (by simp only [hiK]; omega) ?_; refine ev_arith rfl rfl rfl rfl rfl (by simp only [lowK, hiK]; omega) ?_; refine sA [] rfl ?_; refine ev_arith rfl rfl rfl rfl rfl (by simp only [lowK, hiK]; omega) ?_; refine ev_quo rfl rfl rfl rfl (by omega) (by omega) (by simp only [hiK]; omega) ?_; refine ev_arith rfl rfl rfl rfl rfl (by simp only [lowK, hiK]; omega) ?_; refine sA [] rfl ?_; refine ev_arith rfl rfl rfl rfl rfl (by simp only [lowK, hiK]; omega) ?_; refine ev_quo rfl rfl rfl rfl (by omega) (by omega) (by simp only [hiK]; omega) ?_; refine ev_arith rfl rfl rfl rfl rfl (by simp only [lowK, hiK]; omega) ?_; refine sC [] rfl ?_; refine sC [] rfl ?_
  rw [show IntKind.i64.wrap (0 - q) = -q from (wrapK (by simp only [lowK, hiK]; omega)).trans (by omega)]
  skip
  refine ev_condD rfl (fun c => ?_) (fun c => ?_)
  · rw [if_pos (by omega)] at hE
    refine sA [] rfl ?_
    exact ret1 (.inr rfl) rfl rfl ⟨by rw [hE], rfl⟩
  · rw [if_neg (by omega)] at hE
    refine sA [] rfl ?_
    refine ev_loop (α := Nat) (fun y => [(6, i64 (-q)), (9, i64 (expY t / 2 ^ y)), (10, i64 y)]) (fun y w' => (y : Int) ≤ -q ∧ w' = w1) (fun y => (-q).toNat - y) 0 ⟨rfl, by rw [Int.pow_zero, Int.ediv_one]; rfl, rfl, trivial⟩ ⟨by show (0 : Int) ≤ -q; omega, rfl⟩ ?_
    rintro y w' ⟨hy1, rfl⟩
    have hd := (ediv_bd (x := expY t) (d := 2 ^ y) (by have := Int.pow_pos (n := 2) (m := y) (by omega); omega)).1 (by omega)
    refine sC [] rfl ?_; refine sD [] rfl ?_; refine sD [] rfl ?_; refine sD [] rfl ?_
    refine ev_condD rfl (fun c2 => ?_) (fun c2 => ?_)
    · have e : expY t / 2 ^ y / 2 = expY t / 2 ^ (y + 1) := by rw [Int.pow_succ, Int.ediv_ediv_of_nonneg (Int.le_of_lt (Int.pow_pos (by omega)))]
      refine sA [] rfl ?_; refine ev_quo rfl rfl rfl rfl (by omega) (by omega) (by simp only [hiK]; omega) ?_; refine sA [] rfl ?_; refine ev_arith rfl rfl rfl rfl rfl (by simp only [lowK, hiK]; omega) ?_; refine sA [] rfl ?_
      exact ev_next (y + 1) (by omega) ⟨by omega, rfl⟩ ⟨rfl, by rw [← e]; rfl, by rw [show ((y + 1 : Nat) : Int) = (y : Int) + 1 by omega]; rfl, trivial⟩
    · have : (-q).toNat = y := by omega
      refine sA [] rfl ?_
      exact ret1 (.inr rfl) rfl rfl ⟨by rw [hE, this], rfl⟩
theorem expQ_bd {x : Int} (hx : x ≤ 0) : 0 ≤ expQ x ∧ expQ x ≤ 2147483648 := by
  have hy := expY_bd (Int.emod_nonneg x (show (65536 : Int) ≠ 0 by omega)) (Int.emod_lt_of_pos x (show (0 : Int) < 65536 by omega))
  unfold expQ
  split
  · omega
  · have := (ediv_bd (x := expY (x % 65536)) (d := 2 ^ (-(x / 65536)).toNat) (by have := Int.pow_pos (n := 2) (m := (-(x / 65536)).toNat) (by omega); omega)).1 (by omega)
    omega
/-- how much of 64 goes through -/
def softP (x : Int) : Int := 68719476736 / (1073741824 + expQ (-8192 * x))
def softQ (x : Int) : Int := if x < 0 then 64 - softP (-x) else softP x
theorem softP_bd {x : Int} (h0 : 0 ≤ x) : 0 ≤ softP x ∧ softP x ≤ 64 := by
  have h := expQ_bd (x := -8192 * x) (by omega)
  unfold softP
  refine ⟨Int.ediv_nonneg (by omega) (by omega), ?_⟩
  have : 68719476736 / (1073741824 + expQ (-8192 * x)) ≤ 68719476736 / 1073741824 := by
    refine Int.le_ediv_of_mul_le (by omega) ?_
    have h2 := Int.ediv_mul_le 68719476736 (show 1073741824 + expQ (-8192 * x) ≠ 0 by omega)
    have h3 : 0 ≤ 68719476736 / (1073741824 + expQ (-8192 * x)) := Int.ediv_nonneg (by omega) (by omega)
    refine Int.le_trans (Int.mul_le_mul_of_nonneg_left (by omega) h3) h2
  omega
theorem softQ_bd (x : Int) : 0 ≤ softQ x ∧ softQ x ≤ 64 := by
  unfold softQ
  split
  · have := softP_bd (x := -x) (by omega); omega
  · exact softP_bd (by omega)
theorem wSoftP (x : Int) (w : World) (h0 : 0 ≤ x) (h1 : x ≤ 1000) : CallsF Tryd.prog 86 [i64 x] w fun r w' => r = i64 (softP x) ∧ Fr no w w' := by
  have hb := expQ_bd (x := -8192 * x) (by omega)
  refine callsF Tryd.func86 rfl rfl (by decide) rfl ?_
  refine sC [] rfl ?_; refine sC [] rfl ?_; refine sD [] rfl ?_; refine sD [] rfl ?_
  rw [show decide (x < 0) = false from decide_eq_false (by omega)]
  refine sA [] rfl ?_; refine ev_arith rfl rfl rfl rfl rfl (by simp only [lowK, hiK]; omega) ?_
  refine ev_call rfl rfl rfl (wExp2 (-8192 * x) _ (by omega)) (fun r w1 hr => ?_)
  obtain ⟨rfl, hf1⟩ := hr
  refine ev_arith rfl rfl rfl rfl rfl (by simp only [lowK, hiK]; omega) ?_
  refine ev_call rfl rfl rfl (wFloor 68719476736 (1073741824 + expQ (-8192 * x)) _ ⟨by omega, by omega⟩ (by omega)) (fun r w2 hr => ?_)
  obtain ⟨rfl, hf2⟩ := hr
  refine sA [] rfl ?_
  exact ret1 (.inr rfl) rfl rfl ⟨rfl, hf1.tr hf2⟩
theorem wSoft (x : Int) (w : World) (h : -1000 ≤ x ∧ x ≤ 1000) : CallsF Tryd.prog 86 [i64 x] w fun r w' => r = i64 (softQ x) ∧ Fr no w w' := by
  by_cases h0 : x < 0
  · have hb := softP_bd (x := -x) (by omega)
    refine callsF Tryd.func86 rfl rfl (by decide) rfl ?_
    refine sC [] rfl ?_; refine sC [] rfl ?_; refine sD [] rfl ?_; refine sD [] rfl ?_
    rw [show decide (x < 0) = true from decide_eq_true h0]
    refine sA [] rfl ?_
    rw [show IntKind.i64.wrap (0 - x) = -x from (wrapK (by simp only [lowK, hiK]; omega)).trans (by omega)]
    refine ev_call rfl rfl rfl (wSoftP (-x) _ (by omega) (by omega)) (fun r w1 hr => ?_)
    obtain ⟨rfl, hf1⟩ := hr
    refine ev_arith rfl rfl rfl rfl rfl (by simp only [lowK, hiK]; omega) ?_; refine sA [] rfl ?_
    exact ret1 (.inr rfl) rfl rfl ⟨by unfold softQ; rw [if_pos h0], hf1⟩
  · exact (wSoftP x w (by omega) h.2).mono fun v w' hv => ⟨by rw [hv.1]; unfold softQ; rw [if_neg h0], hv.2⟩
theorem refSoftP (x : Int) (w : World) (h0 : 0 ≤ x) (h1 : x ≤ 1000) : CallsF Tryd.prog 80 [i64 x] w fun r w' => r = i64 (softP x) ∧ w' = w := by
  have hb := expQ_bd (x := -8192 * x) (by omega)
  refine callsF Tryd.func80 rfl rfl (by decide) rfl ?_
  refine sC [] rfl ?_; refine sC [] rfl ?_; refine sD [] rfl ?_; refine sD [] rfl ?_
  rw [show decide (x < 0) = false from decide_eq_false (by omega)]
  refine sA [] rfl ?_; refine ev_arith rfl rfl rfl rfl rfl (by simp only [lowK, hiK]; omega) ?_
  refine ev_call rfl rfl rfl (refExp2 (-8192 * x) _ (by omega)) (fun r w1 hr => ?_)
  obtain ⟨rfl, rfl⟩ := hr
  refine ev_arith rfl rfl rfl rfl rfl (by simp only [lowK, hiK]; omega) ?_
  refine ev_call rfl rfl rfl (refFloor 68719476736 (1073741824 + expQ (-8192 * x)) _ ⟨by omega, by omega⟩ (by omega)) (fun r w2 hr => ?_)
  obtain ⟨rfl, rfl⟩ := hr
  refine sA [] rfl ?_
  exact ret1 (.inr rfl) rfl rfl ⟨rfl, rfl⟩
theorem refSoft (x : Int) (w : World) (h : -1000 ≤ x ∧ x ≤ 1000) : CallsF Tryd.prog 80 [i64 x] w fun r w' => r = i64 (softQ x) ∧ w' = w := by
  by_cases h0 : x < 0
  · have hb := softP_bd (x := -x) (by omega)
    refine callsF Tryd.func80 rfl rfl (by decide) rfl ?_
    refine sC [] rfl ?_; refine sC [] rfl ?_; refine sD [] rfl ?_; refine sD [] rfl ?_
    rw [show decide (x < 0) = true from decide_eq_true h0]
    refine sA [] rfl ?_
    rw [show IntKind.i64.wrap (0 - x) = -x from (wrapK (by simp only [lowK, hiK]; omega)).trans (by omega)]
    refine ev_call rfl rfl rfl (refSoftP (-x) _ (by omega) (by omega)) (fun r w1 hr => ?_)
    obtain ⟨rfl, rfl⟩ := hr
    refine ev_arith rfl rfl rfl rfl rfl (by simp only [lowK, hiK]; omega) ?_; refine sA [] rfl ?_
    exact ret1 (.inr rfl) rfl rfl ⟨by unfold softQ; rw [if_pos h0], rfl⟩
  · exact (refSoftP x w (by omega) h.2).mono fun v w' hv => ⟨by rw [hv.1]; unfold softQ; rw [if_neg h0], hv.2⟩
/-- the usual bend of a number -/
def bendQ (x : Int) : Int := narrowQ (roundQ (x * softQ x) 6)
theorem soft_mul {x : Int} (h : -1000 ≤ x ∧ x ≤ 1000) : -64000 ≤ x * softQ x ∧ x * softQ x ≤ 64000 := by
  have h2 := softQ_bd x
  rcases Int.le_total 0 x with h0 | h0
  · have a1 : 0 ≤ x * softQ x := Int.mul_nonneg h0 h2.1
    have a2 : x * softQ x ≤ x * 64 := Int.mul_le_mul_of_nonneg_left h2.2 h0
    omega
  · have a1 : x * 64 ≤ x * softQ x := Int.mul_le_mul_of_nonpos_left h0 h2.2
    have a2 : x * softQ x ≤ x * 0 := Int.mul_le_mul_of_nonpos_left h0 h2.1
    omega
theorem wBend2 (x : Int) (w : World) (h : -1000 ≤ x ∧ x ≤ 1000) : CallsF Tryd.prog 84 [i64 x] w fun r w' => r = .int .i8 (bendQ x) ∧ Fr no w w' := by
  have hm := soft_mul h
  refine callsF Tryd.func84 rfl rfl (by decide) rfl ?_
  refine sA [] rfl ?_
  refine ev_call rfl rfl rfl (wSoft x _ h) (fun r w1 hr => ?_)
  obtain ⟨rfl, hf1⟩ := hr
  refine ev_arith rfl rfl rfl rfl rfl (by simp only [lowK, hiK]; omega) ?_
  have hN : CallsF Tryd.prog 85 [i64 (x * softQ x), i64 6] w1 fun r w' => r = .int .i8 (bendQ x) ∧ Fr no w1 w' := by
    refine callsF Tryd.func85 rfl rfl (by decide) rfl ?_
    refine sA [] rfl ?_
    refine ev_call rfl rfl rfl (wRound (x * softQ x) 6 _ ⟨by omega, by omega⟩ (by omega)) (fun r w2 hr => ?_)
    obtain ⟨rfl, hf2⟩ := hr
    refine sA [] rfl ?_
    refine ev_call rfl rfl rfl (wNarrow (roundQ (x * softQ x) 6) _) (fun r w3 hr => ?_)
    obtain ⟨rfl, rfl⟩ := hr
    refine sA [] rfl ?_
    exact ret1 (.inr rfl) rfl rfl ⟨rfl, hf2⟩
  refine ev_call rfl rfl rfl hN (fun r w2 hr => ?_)
  obtain ⟨rfl, hf2⟩ := hr
  refine sA [] rfl ?_
  exact ret1 (.inr rfl) rfl rfl ⟨rfl, hf1.tr hf2⟩
theorem refBent (x : Int) (w : World) (h : -1000 ≤ x ∧ x ≤ 1000) : CallsF Tryd.prog 64 [i64 2, i64 x] w fun r w' => r = .int .i8 (bendQ x) ∧ w' = w := by
  have hm := soft_mul h
  refine callsF Tryd.func64 rfl rfl (by decide) rfl ?_
  refine sA [] rfl ?_
  refine ev_call rfl rfl rfl (refSoft x _ h) (fun r w1 hr => ?_)
  obtain ⟨rfl, rfl⟩ := hr
  refine ev_arith rfl rfl rfl rfl rfl (by simp only [lowK, hiK]; omega) ?_
  refine ev_call rfl rfl rfl (refRound (x * softQ x) 6 _ ⟨by omega, by omega⟩ (by omega)) (fun r w2 hr => ?_)
  obtain ⟨rfl, rfl⟩ := hr
  refine sA [] rfl ?_
  refine ev_call rfl rfl rfl (refNarrow (roundQ (x * softQ x) 6) _) (fun r w3 hr => ?_)
  obtain ⟨rfl, rfl⟩ := hr
  refine sA [] rfl ?_
  exact ret1 (.inr rfl) rfl rfl ⟨rfl, rfl⟩
end Go.Wk.YtfgllkflnkolhaaDoor
