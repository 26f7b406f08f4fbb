/-
  Taken for this seat out of ShA.
-/
import Derived.Test.YtdelgnflcfhhkaaGreatDoorPVo
import Derived.Test.YtdelgnflcfhhkaaGreatDoorBits
import Derived.Test.YtdelgnflcfhhkaaGreatDoorCopy
import Derived.Test.YtdelgnflcfhhkaaGreatDoorStr
set_option linter.unusedVariables false
namespace Go.Wk.YtdelgnflcfhhkaaGreatDoor
open Go Go.Wk Go.Proofs
theorem tq {x d : Int} (hd : 1 ≤ d) : (x.tmod d < 0 → x / d = x.tdiv d - 1 ∧ x % d = x.tmod d + d) ∧ (¬ x.tmod d < 0 → x / d = x.tdiv d ∧ x % d = x.tmod d) ∧ -d < x.tmod d ∧ x.tmod d < d := by
  have h1 := Int.tmod_add_mul_tdiv x d
  have h2 := Int.tmod_lt_of_pos x (show 0 < d by omega)
  have h3 := Int.lt_tmod_of_pos x (show 0 < d by omega)
  refine ⟨fun h => (Int.ediv_emod_unique (by omega)).2 ⟨?_, by omega, by omega⟩, fun h => (Int.ediv_emod_unique (by omega)).2 ⟨h1, by omega, h2⟩, h3, h2⟩
  rw [Int.mul_sub, Int.mul_one]; omega
theorem tdiv_abs (x d : Int) : (x.tdiv d).natAbs ≤ x.natAbs := Int.natAbs_tdiv_le_natAbs x d
theorem ediv_bd {x d : Int} (hd : 1 ≤ d) : (0 ≤ x → 0 ≤ x / d ∧ x / d ≤ x) ∧ (x < 0 → x ≤ x / d ∧ x / d < 0) := by
  have h := Int.mul_ediv_add_emod x d
  have h1 := Int.emod_nonneg x (show d ≠ 0 by omega)
  have h2 := Int.emod_lt_of_pos x (show 0 < d by omega)
  refine ⟨fun h0 => ⟨Int.ediv_nonneg h0 (by omega), Int.ediv_le_self _ h0⟩, fun h0 => ?_⟩
  have h3 : x / d < 0 := Int.ediv_neg_of_neg_of_pos h0 (by omega)
  refine ⟨?_, h3⟩
  refine (Int.le_ediv_iff_mul_le (by omega)).2 ?_
  have h4 : x * d ≤ x * 1 := Int.mul_le_mul_of_nonpos_left (by omega) hd
  omega
/-- the nearest quotient -/
def nearQ (x d : Int) : Int := if d - x % d < x % d ∨ (x % d = d - x % d ∧ x / d % 2 = 1) then x / d + 1 else x / d
def roundQ (x : Int) (s : Nat) : Int := nearQ x (2 ^ s)
theorem nearQ_bd {x d : Int} (hd : 1 ≤ d) : (0 ≤ x → 0 ≤ nearQ x d ∧ nearQ x d ≤ x + 1) ∧ (x < 0 → x ≤ nearQ x d ∧ nearQ x d ≤ 0) := by
  have h := ediv_bd (x := x) hd
  refine ⟨fun h0 => ?_, fun h0 => ?_⟩
  · have := h.1 h0
    unfold nearQ; split <;> omega
  · have := h.2 h0
    unfold nearQ; split <;> omega
theorem and1_i64 (q : Int) (h0 : -9223372036854775808 ≤ q) (h1 : q ≤ 9223372036854775807) : bits .and .i64 q 1 = q % 2 := by
  show IntKind.i64.wrap (((BitVec.ofInt 64 q &&& BitVec.ofInt 64 1 : BitVec 64).toNat : Nat) : Int) = _
  rw [BitVec.toNat_and, show (BitVec.ofInt 64 1).toNat = 1 by decide, Nat.and_one_is_mod, BitVec.toNat_ofInt]
  have h2 : (((q % ((2 ^ 64 : Nat) : Int)).toNat % 2 : Nat) : Int) = q % 2 := by omega
  rw [h2]
  exact wrapK (k := .i64) (by simp only [lowK, hiK]; omega)
abbrev okI (x : Int) : Prop := -4611686018427387904 ≤ x ∧ x ≤ 4611686018427387904
theorem wFloor (x d : Int) (w : World) (hx : okI x) (hd : 1 ≤ d ∧ d ≤ 4611686018427387904) : CallsF Tryz.prog 135 [i64 x, i64 d] w fun r w' => r = .tuple #[i64 (x / d), i64 (x % d), i64 0] ∧ Fr no w w' := by
  have h1 := tq (x := x) hd.1
  have h2 := tdiv_abs x d
  refine callsF Tryz.func135 rfl rfl (by decide) rfl ?_
  refine sC [] rfl ?_; refine sC [] rfl ?_; refine sC [] rfl ?_
  rw [show decide (d < 1) = false from decide_eq_false (by omega)]
  refine sA [] rfl ?_
  refine ev_draw mixed (by kernel_rfl) ?_
  refine qA rfl ?_
  refine q_y rfl rfl (y_quoT rfl rfl (by omega) (by simp only [lowK, hiK]; omega)) ?_
  refine qA rfl ?_
  refine q_remT rfl rfl rfl rfl (by omega) ?_
  refine qA rfl ?_
  refine q_end fun w1 hf1 => ?_
  refine sC [] rfl ?_; refine sD [] rfl ?_; refine sD [] rfl ?_
  refine ev_condD rfl (fun c => ?_) (fun c => ?_)
  · obtain ⟨e1, e2⟩ := h1.1 c
    refine sA [] rfl ?_; refine ev_arith rfl rfl rfl rfl rfl (by simp only [lowK, hiK]; omega) ?_; refine sA [] rfl ?_; refine ev_arith rfl rfl rfl rfl rfl (by simp only [lowK, hiK]; omega) ?_; refine sA [] rfl ?_
    exact ret3 (.inr rfl) rfl rfl rfl rfl ⟨by rw [e1, e2], hf1⟩
  · obtain ⟨e1, e2⟩ := h1.2.1 c
    refine sA [] rfl ?_
    exact ret3 (.inr rfl) rfl rfl rfl rfl ⟨by rw [e1, e2], hf1⟩
theorem refFloor (x d : Int) (w : World) (hx : okI x) (hd : 1 ≤ d ∧ d ≤ 4611686018427387904) : CallsF Tryz.prog 144 [i64 x, i64 d] w fun r w' => r = .tuple #[i64 (x / d), i64 (x % d), i64 0] ∧ w' = w := by
  have h1 := tq (x := x) hd.1
  have h2 := tdiv_abs x d
  refine callsF Tryz.func144 rfl rfl (by decide) rfl ?_
  refine sC [] rfl ?_; refine sC [] rfl ?_; refine sC [] rfl ?_
  rw [show decide (d < 1) = false from decide_eq_false (by omega)]
  refine sA [] rfl ?_
  refine ev_quoT rfl rfl rfl rfl (by omega) (by simp only [lowK, hiK]; omega) ?_
  refine sA [] rfl ?_
  refine ev_remT rfl rfl rfl rfl (by omega) ?_
  refine sC [] rfl ?_; refine sC [] rfl ?_
  refine ev_condD rfl (fun c => ?_) (fun c => ?_)
  · obtain ⟨e1, e2⟩ := h1.1 c
    refine sA [] rfl ?_; refine ev_arith rfl rfl rfl rfl rfl (by simp only [lowK, hiK]; omega) ?_; refine sA [] rfl ?_; refine ev_arith rfl rfl rfl rfl rfl (by simp only [lowK, hiK]; omega) ?_; refine sA [] rfl ?_
    exact ret3 (.inr rfl) rfl rfl rfl rfl ⟨by rw [e1, e2], rfl⟩
  · obtain ⟨e1, e2⟩ := h1.2.1 c
    refine sA [] rfl ?_
    exact ret3 (.inr rfl) rfl rfl rfl rfl ⟨by rw [e1, e2], rfl⟩
theorem wNear (x d : Int) (w : World) (hx : okI x) (hd : 1 ≤ d ∧ d ≤ 4611686018427387904) : CallsF Tryz.prog 155 [i64 x, i64 d] w fun r w' => r = .tuple #[i64 (nearQ x d), i64 0] ∧ Fr no w w' := by
  have h1 := ediv_bd (x := x) hd.1
  have h2 := Int.emod_nonneg x (show d ≠ 0 by omega)
  have h3 := Int.emod_lt_of_pos x (show 0 < d by omega)
  refine callsF Tryz.func155 rfl rfl (by decide) rfl ?_
  refine sA [] rfl ?_
  refine ev_call rfl rfl rfl (wFloor x d _ hx hd) (fun r w1 hr => ?_)
  obtain ⟨rfl, hf1⟩ := hr
  have e1 : nearQ x d = if d - x % d < x % d ∨ (x % d = d - x % d ∧ x / d % 2 = 1) then x / d + 1 else x / d := rfl
  obtain ⟨q, hq⟩ : ∃ q, q = x / d := ⟨_, rfl⟩
  obtain ⟨m, hm⟩ : ∃ m, m = x % d := ⟨_, rfl⟩
  rw [← hq] at h1
  rw [← hm] at h2 h3
  rw [← hq, ← hm] at e1 ⊢
  refine sA [] rfl ?_; refine ev_arith rfl rfl rfl rfl rfl (by simp only [lowK, hiK]; omega) ?_; refine sD [] rfl ?_; refine sD [] rfl ?_
  by_cases c1 : d - m < m
  · rw [if_pos (.inl c1)] at e1
    rw [show decide (d - m < m) = true from decide_eq_true c1]
    refine sA [] rfl ?_; refine ev_arith rfl rfl rfl rfl rfl (by simp only [lowK, hiK]; omega) ?_; refine sA [] rfl ?_
    exact ret2 (.inr rfl) rfl rfl rfl ⟨by rw [e1], hf1⟩
  · rw [show decide (d - m < m) = false from decide_eq_false c1]
    refine sA [] rfl ?_; refine ev_arith rfl rfl rfl rfl rfl (by simp only [lowK, hiK]; omega) ?_; refine sD [] rfl ?_; refine sD [] rfl ?_
    by_cases c2 : m = d - m
    · rw [show decide (m = d - m) = true from decide_eq_true c2]
      refine sC [] rfl ?_; refine sD [] rfl ?_; refine sD [] rfl ?_
      rw [and1_i64 q (by omega) (by omega)]
      skip
      refine ev_condD rfl (fun c3 => ?_) (fun c3 => ?_)
      · rw [if_pos (.inr ⟨c2, c3⟩)] at e1
        refine sA [] rfl ?_; refine ev_arith rfl rfl rfl rfl rfl (by simp only [lowK, hiK]; omega) ?_; refine sA [] rfl ?_
        exact ret2 (.inr rfl) rfl rfl rfl ⟨by rw [e1], hf1⟩
      · rw [if_neg (by omega)] at e1
        refine sA [] rfl ?_
        exact ret2 (.inr rfl) rfl rfl rfl ⟨by rw [e1], hf1⟩
    · rw [if_neg (by omega)] at e1
      rw [show decide (m = d - m) = false from decide_eq_false c2]
      refine sA [] rfl ?_
      exact ret2 (.inr rfl) rfl rfl rfl ⟨by rw [e1], hf1⟩
theorem refNear (x d : Int) (w : World) (hx : okI x) (hd : 1 ≤ d ∧ d ≤ 4611686018427387904) : CallsF Tryz.prog 143 [i64 x, i64 d] w fun r w' => r = .tuple #[i64 (nearQ x d), i64 0] ∧ w' = w := by
  have h1 := ediv_bd (x := x) hd.1
  have h2 := Int.emod_nonneg x (show d ≠ 0 by omega)
  have h3 := Int.emod_lt_of_pos x (show 0 < d by omega)
  refine callsF Tryz.func143 rfl rfl (by decide) rfl ?_
  refine sA [] rfl ?_
  refine ev_call rfl rfl rfl (refFloor x d _ hx hd) (fun r w1 hr => ?_)
  obtain ⟨rfl, rfl⟩ := hr
  have e1 : nearQ x d = if d - x % d < x % d ∨ (x % d = d - x % d ∧ x / d % 2 = 1) then x / d + 1 else x / d := rfl
  obtain ⟨q, hq⟩ : ∃ q, q = x / d := ⟨_, rfl⟩
  obtain ⟨m, hm⟩ : ∃ m, m = x % d := ⟨_, rfl⟩
  rw [← hq] at h1
  rw [← hm] at h2 h3
  rw [← hq, ← hm] at e1 ⊢
  have ht := tq (x := q) (d := 2) (by omega)
  refine sA [] rfl ?_; refine ev_arith rfl rfl rfl rfl rfl (by simp only [lowK, hiK]; omega) ?_; refine sD [] rfl ?_; refine sD [] rfl ?_
  by_cases c1 : d - m < m
  · rw [if_pos (.inl c1)] at e1
    rw [show decide (d - m < m) = true from decide_eq_true c1]
    refine sA [] rfl ?_; refine ev_arith rfl rfl rfl rfl rfl (by simp only [lowK, hiK]; omega) ?_; refine sA [] rfl ?_
    exact ret2 (.inr rfl) rfl rfl rfl ⟨by rw [e1], rfl⟩
  · rw [show decide (d - m < m) = false from decide_eq_false c1]
    refine sA [] rfl ?_; refine ev_arith rfl rfl rfl rfl rfl (by simp only [lowK, hiK]; omega) ?_; refine sD [] rfl ?_; refine sD [] rfl ?_
    by_cases c2 : m = d - m
    · rw [show decide (m = d - m) = true from decide_eq_true c2]
      refine sA [] rfl ?_
      refine ev_remT rfl rfl rfl rfl (by omega) ?_
      refine sC [] rfl ?_
      refine ev_condD rfl (fun c3 => ?_) (fun c3 => ?_)
      · rw [if_pos (.inr ⟨c2, by by_cases z : q.tmod 2 < 0; have := ht.1 z; omega; have := ht.2.1 z; omega⟩)] at e1
        refine sA [] rfl ?_; refine ev_arith rfl rfl rfl rfl rfl (by simp only [lowK, hiK]; omega) ?_; refine sA [] rfl ?_
        exact ret2 (.inr rfl) rfl rfl rfl ⟨by rw [e1], rfl⟩
      · rw [if_neg (by have : q.tmod 2 = 0 := Decidable.not_not.1 c3; have := ht.2.1 (by omega); omega)] at e1
        refine sA [] rfl ?_
        exact ret2 (.inr rfl) rfl rfl rfl ⟨by rw [e1], rfl⟩
    · rw [if_neg (by omega)] at e1
      rw [show decide (m = d - m) = false from decide_eq_false c2]
      refine sA [] rfl ?_
      exact ret2 (.inr rfl) rfl rfl rfl ⟨by rw [e1], rfl⟩
theorem pow_bd {s : Nat} (h : s ≤ 62) : (1 : Int) ≤ 2 ^ s ∧ (2 : Int) ^ s ≤ 4611686018427387904 := by
  have h1 : (2 : Nat) ^ s ≤ 2 ^ 62 := Nat.pow_le_pow_right (by omega) h
  have h2 : 0 < (2 : Nat) ^ s := Nat.pow_pos (by omega)
  have h3 : (2 : Int) ^ s = ((2 ^ s : Nat) : Int) := by rw [Int.natCast_pow]; rfl
  rw [h3]
  omega
theorem wRound (x : Int) (s : Nat) (w : World) (hx : okI x) (hs : s ≤ 62) : CallsF Tryz.prog 133 [i64 x, i64 s] w fun r w' => r = .tuple #[i64 (roundQ x s), i64 0] ∧ Fr no w w' := by
  have hp := pow_bd hs
  refine callsF Tryz.func133 rfl rfl (by decide) rfl ?_
  refine sC [] rfl ?_; refine sC [] rfl ?_; refine sC [] rfl ?_; refine sD [] rfl ?_; refine sD [] rfl ?_; refine sD [] rfl ?_
  rw [show decide ((s : Int) < 0) = false from decide_eq_false (by omega)]
  skip
  rw [show decide ((62 : Int) < s) = false from decide_eq_false (by omega)]
  refine sC [] rfl ?_; refine sD [] rfl ?_; refine sD [] rfl ?_
  refine ev_y rfl rfl (y_shl rfl rfl (by omega) (by show (s : Int) ≤ ((64 : Nat) : Int); omega)) ?_
  rw [show IntKind.i64.wrap (1 * 2 ^ ((s : Nat) : Int).toNat) = 2 ^ s by rw [Int.toNat_natCast, Int.one_mul]; exact wrapK (k := .i64) (by simp only [lowK, hiK]; omega)]
  refine ev_call rfl rfl rfl (wNear x (2 ^ s) _ hx hp) (fun r w1 hr => ?_)
  obtain ⟨rfl, hf1⟩ := hr
  refine sA [] rfl ?_
  exact ret2 (.inr rfl) rfl rfl rfl ⟨rfl, hf1⟩
theorem refRound (x : Int) (s : Nat) (w : World) (hx : okI x) (hs : s ≤ 62) : CallsF Tryz.prog 114 [i64 x, i64 s] w fun r w' => r = .tuple #[i64 (roundQ x s), i64 0] ∧ w' = w := by
  refine callsF Tryz.func114 rfl rfl (by decide) rfl ?_
  refine sC [] rfl ?_; refine sC [] rfl ?_; refine sC [] rfl ?_; refine sD [] rfl ?_; refine sD [] rfl ?_; refine sD [] rfl ?_
  rw [show decide ((s : Int) < 0) = false from decide_eq_false (by omega)]
  skip
  rw [show decide ((62 : Int) < s) = false from decide_eq_false (by omega)]
  refine sA [] rfl ?_
  refine ev_loop (α := Nat) (fun y => [(0, i64 x), (1, i64 s), (6, i64 (2 ^ y)), (7, i64 y)]) (fun y w' => y ≤ s ∧ w' = w) (fun y => s - y) 0 ⟨rfl, rfl, rfl, rfl, trivial⟩ ⟨Nat.zero_le _, rfl⟩ ?_
  rintro y w' ⟨hy, rfl⟩
  have hp := pow_bd (s := y) (by omega)
  refine sC [] rfl ?_; refine sD [] rfl ?_; refine sD [] rfl ?_; refine sD [] rfl ?_
  refine ev_condD rfl (fun c => ?_) (fun c => ?_)
  · have hp1 := pow_bd (s := y + 1) (by omega)
    have e : (2 : Int) ^ y * 2 = 2 ^ (y + 1) := (Int.pow_succ 2 y).symm
    refine sA [] rfl ?_; refine ev_arith rfl rfl rfl rfl rfl (by simp only [lowK, hiK]; omega) ?_; refine sA [] rfl ?_; refine ev_arith rfl rfl rfl rfl rfl (by simp only [lowK, hiK]; omega) ?_; refine sA [] rfl ?_
    exact ev_next (y + 1) (by omega) ⟨by omega, rfl⟩ ⟨rfl, rfl, by rw [← e]; rfl, by rw [show ((y + 1 : Nat) : Int) = (y : Int) + 1 by omega]; rfl, trivial⟩
  · obtain rfl : y = s := by omega
    refine sA [] rfl ?_
    refine ev_call rfl rfl rfl (refNear x (2 ^ y) _ hx hp) (fun r w1 hr => ?_)
    obtain ⟨rfl, rfl⟩ := hr
    refine sA [] rfl ?_
    exact ret2 (.inr rfl) rfl rfl rfl ⟨rfl, rfl⟩
def clampQ (x lo hi : Int) : Int := if x < lo then lo else if hi < x then hi else x
theorem refClamp (x lo hi : Int) (w : World) : CallsF Tryz.prog 146 [i64 x, i64 lo, i64 hi] w fun r w' => r = i64 (clampQ x lo hi) ∧ w' = w := by
  refine callsF Tryz.func146 rfl rfl (by decide) rfl ?_
  refine sC [] rfl ?_; refine sC [] rfl ?_; refine sD [] rfl ?_; refine sD [] rfl ?_; refine sD [] rfl ?_
  refine ev_condD rfl (fun c => ?_) (fun c => ?_)
  · refine sA [] rfl ?_
    exact ret1 (.inr rfl) rfl rfl ⟨by unfold clampQ; rw [if_pos c], rfl⟩
  · refine sC [] rfl ?_; refine sC [] rfl ?_
    refine ev_condD rfl (fun c2 => ?_) (fun c2 => ?_)
    · refine sA [] rfl ?_
      exact ret1 (.inr rfl) rfl rfl ⟨by unfold clampQ; rw [if_neg c, if_pos c2], rfl⟩
    · refine sA [] rfl ?_
      exact ret1 (.inr rfl) rfl rfl ⟨by unfold clampQ; rw [if_neg c, if_neg c2], rfl⟩
/-- a number of 8 bits, as a value -/
abbrev i8v (x : Int8) : Value := .int .i8 x.toInt
def narrowQ (x : Int) : Int := clampQ x (-127) 127
theorem narrowQ_bd (x : Int) : -127 ≤ narrowQ x ∧ narrowQ x ≤ 127 := by unfold narrowQ clampQ; split; omega; split <;> omega
theorem refNarrow (x : Int) (w : World) : CallsF Tryz.prog 116 [i64 x] w fun r w' => r = .int .i8 (narrowQ x) ∧ w' = w := by
  have h := narrowQ_bd x
  refine callsF Tryz.func116 rfl rfl (by decide) rfl ?_
  refine sA [] rfl ?_
  refine ev_call rfl rfl rfl (refClamp x (-127) 127 _) (fun r w1 hr => ?_)
  obtain ⟨rfl, rfl⟩ := hr
  rw [show clampQ x (-127) 127 = narrowQ x from rfl]
  refine ev_conv rfl rfl tabOk rfl rfl rfl (by simp only [lowK, hiK]; omega) ?_; refine sA [] rfl ?_
  exact ret1 (.inr rfl) rfl rfl ⟨rfl, rfl⟩
/-- 2 to a power, times 2^30 -/
def expY (t : Int) : Int := 1073741824 + (747400624 + (241400000 + 84941200 * t / 65536) * t / 65536) * t / 65536
def expQ (x : Int) : Int := if x / 65536 ≤ -31 then 0 else expY (x % 65536) / 2 ^ (-(x / 65536)).toNat
theorem expY_bd {t : Int} (h0 : 0 ≤ t) (h1 : t < 65536) : 1073741824 ≤ expY t ∧ expY t ≤ 2147483648 ∧ 0 ≤ 84941200 * t / 65536 ∧ 241400000 + 84941200 * t / 65536 ≤ 326341200 ∧ 0 ≤ (241400000 + 84941200 * t / 65536) * t / 65536 ∧ 747400624 + (241400000 + 84941200 * t / 65536) * t / 65536 ≤ 1073741824 := by
  have mb : ∀ {a m : Int}, 0 ≤ a → a ≤ m → 0 ≤ a * t / 65536 ∧ a * t / 65536 ≤ m := fun {a m} ha hm => by
    have e1 : 0 ≤ a * t := Int.mul_nonneg ha h0
    have e2 : a * t ≤ a * 65536 := Int.mul_le_mul_of_nonneg_left (by omega) ha
    omega
  have a1 := mb (a := 84941200) (m := 84941200) (by omega) (by omega)
  have a2 := mb (a := 241400000 + 84941200 * t / 65536) (m := 326341200) (by omega) (by omega)
  have a3 := mb (a := 747400624 + (241400000 + 84941200 * t / 65536) * t / 65536) (m := 1073741824) (by omega) (by omega)
  unfold expY
  omega
end Go.Wk.YtdelgnflcfhhkaaGreatDoor
namespace Go.Wk.YtdelgnflcfhhkaaGreatDoor
open Go Go.Wk Go.Proofs
theorem i8_of {n : Int} (h : -128 ≤ n ∧ n ≤ 127) : Value.int .i8 n = i8v (Int8.ofInt n) := by
  show Value.int .i8 n = Value.int .i8 (Int8.ofInt n).toInt
  rw [Int8.toInt_ofInt_of_le h.1 (by omega)]
/-- a row of 8-bit numbers of the call's own, none of what was there -/
def N8 (w0 w : World) (v : Value) (xs : List Int8) : Prop := Own w 177 1 v xs.length (xs.map i8v) ∧ (∀ g, v.ownBlock = some g → w0.heap.size ≤ g) ∧ Fr no w0 w
theorem N8.fr {w0 w w' : World} {v : Value} {xs : List Int8} (h : N8 w0 w v xs) (hf : Fr no w w') : N8 w0 w' v xs := ⟨h.1.fr0 hf, h.2.1, h.2.2.tr hf⟩
theorem N8.app {w0 w w' : World} {v v' : Value} {xs ys : List Int8} (h : N8 w0 w v xs) (ho : Own w' 177 1 v' (xs.length + ys.length) (xs.map i8v ++ ys.map i8v)) (hf : Fr (fun q => v.ownBlock = some q) w w') (hn : NB w v v') : N8 w0 w' v' (xs ++ ys) := by
  refine ⟨by rw [List.length_append, List.map_append]; exact ho, fun g hg => ?_, h.2.2.trans hf fun b hb z => by have := h.2.1 b z; omega⟩
  rcases hn g hg with z | z
  · exact h.2.1 g z
  · exact Nat.le_trans h.2.2.size z
theorem N8.slice {w0 w : World} {v : Value} {xs : List Int8} (h : N8 w0 w v xs) : ∃ A c, v = .slice A xs.length c ∧ Cs w A (xs.map i8v) ∧ (∀ a, A = some a → v.ownBlock = some a.block ∧ w0.heap.size ≤ a.block) := by
  obtain ⟨A, c, e, h1, h2⟩ := h.1.slice
  refine ⟨A, c, e, h1, fun a ha => ⟨(h2 a ha).1, h.2.1 _ (h2 a ha).1⟩⟩
theorem refExp2 (x : Int) (w : World) (hx : -1099511627776 ≤ x ∧ x ≤ 0) : CallsF Tryz.prog 145 [i64 x] w fun r w' => r = i64 (expQ x) ∧ w' = w := by
  have ht0 := Int.emod_nonneg x (show (65536 : Int) ≠ 0 by omega)
  have ht1 := Int.emod_lt_of_pos x (show (0 : Int) < 65536 by omega)
  have hy := expY_bd ht0 ht1
  have hE : expQ x = if x / 65536 ≤ -31 then 0 else expY (x % 65536) / 2 ^ (-(x / 65536)).toNat := rfl
  refine callsF Tryz.func145 rfl rfl (by decide) rfl ?_
  refine sC [] rfl ?_; refine sC [] rfl ?_; refine sD [] rfl ?_; refine sD [] rfl ?_
  rw [show decide (0 < x) = false from decide_eq_false (by omega)]
  refine sA [] rfl ?_
  refine ev_call rfl rfl rfl (refFloor x 65536 _ ⟨by omega, by omega⟩ ⟨by omega, by omega⟩) (fun r w1 hr => ?_)
  obtain ⟨rfl, rfl⟩ := hr
  have hq : -16777216 ≤ x / 65536 ∧ x / 65536 ≤ 0 := by omega
  obtain ⟨q, hq0⟩ : ∃ q, q = x / 65536 := ⟨_, rfl⟩
  obtain ⟨t, ht⟩ : ∃ t, t = x % 65536 := ⟨_, rfl⟩
  rw [← ht] at ht0 ht1 hy
  rw [← hq0] at hq
  rw [← hq0, ← ht] at hE ⊢
  have n1 : 0 ≤ 84941200 * t ∧ 84941200 * t ≤ 84941200 * 65536 := by omega
  have mb : ∀ {a m : Int}, 0 ≤ a → a ≤ m → 0 ≤ a * t ∧ a * t ≤ m * 65536 := fun {a m} ha hm => by
    have e1 : 0 ≤ a * t := Int.mul_nonneg ha ht0
    have e2 : a * t ≤ a * 65536 := Int.mul_le_mul_of_nonneg_left (by omega) ha
    omega
  have n2 := mb (a := 241400000 + 84941200 * t / 65536) (m := 326341200) (by omega) (by omega)
  have n3 := mb (a := 747400624 + (241400000 + 84941200 * t / 65536) * t / 65536) (m := 1073741824) (by omega) (by omega)
  clear mb
  refine sA [] rfl ?_; refine ev_arith rfl rfl rfl rfl rfl (by simp only [lowK, hiK]; omega) ?_; refine ev_quo rfl rfl rfl rfl (by omega) (by omega) (by simp only [hiK]; omega) ?_; refine ev_arith rfl rfl rfl rfl rfl (by simp only [lowK, hiK]; omega) ?_; refine sA [] rfl ?_; refine ev_arith rfl rfl rfl rfl rfl (by simp only [lowK, hiK]; omega) ?_; refine ev_quo rfl rfl rfl rfl (by omega) (by omega) (by simp only [hiK]; omega) ?_; refine ev_arith rfl rfl rfl rfl rfl (by simp only [lowK, hiK]; omega) ?_; refine sA [] rfl ?_; refine ev_arith rfl rfl rfl rfl rfl (by simp only [lowK, hiK]; omega) ?_; refine ev_quo rfl rfl rfl rfl (by omega) (by omega) (by simp only [hiK]; omega) ?_; refine ev_arith rfl rfl rfl rfl rfl (by simp only [lowK, hiK]; omega) ?_; refine sC [] rfl ?_; refine sC [] rfl ?_
  rw [show IntKind.i64.wrap (0 - q) = -q from (wrapK (by simp only [lowK, hiK]; omega)).trans (by omega)]
  skip
  refine ev_condD rfl (fun c => ?_) (fun c => ?_)
  · rw [if_pos (by omega)] at hE
    refine sA [] rfl ?_
    exact ret1 (.inr rfl) rfl rfl ⟨by rw [hE], rfl⟩
  · rw [if_neg (by omega)] at hE
    refine sA [] rfl ?_
    refine ev_loop (α := Nat) (fun y => [(6, i64 (-q)), (9, i64 (expY t / 2 ^ y)), (10, i64 y)]) (fun y w' => (y : Int) ≤ -q ∧ w' = w1) (fun y => (-q).toNat - y) 0 ⟨rfl, by rw [Int.pow_zero, Int.ediv_one]; rfl, rfl, trivial⟩ ⟨by show (0 : Int) ≤ -q; omega, rfl⟩ ?_
    rintro y w' ⟨hy1, rfl⟩
    have hd := (ediv_bd (x := expY t) (d := 2 ^ y) (by have := Int.pow_pos (n := 2) (m := y) (by omega); omega)).1 (by omega)
    refine sC [] rfl ?_; refine sD [] rfl ?_; refine sD [] rfl ?_; refine sD [] rfl ?_
    refine ev_condD rfl (fun c2 => ?_) (fun c2 => ?_)
    · have e : expY t / 2 ^ y / 2 = expY t / 2 ^ (y + 1) := by rw [Int.pow_succ, Int.ediv_ediv_of_nonneg (Int.le_of_lt (Int.pow_pos (by omega)))]
      refine sA [] rfl ?_; refine ev_quo rfl rfl rfl rfl (by omega) (by omega) (by simp only [hiK]; omega) ?_; refine sA [] rfl ?_; refine ev_arith rfl rfl rfl rfl rfl (by simp only [lowK, hiK]; omega) ?_; refine sA [] rfl ?_
      exact ev_next (y + 1) (by omega) ⟨by omega, rfl⟩ ⟨rfl, by rw [← e]; rfl, by rw [show ((y + 1 : Nat) : Int) = (y : Int) + 1 by omega]; rfl, trivial⟩
    · have : (-q).toNat = y := by omega
      refine sA [] rfl ?_
      exact ret1 (.inr rfl) rfl rfl ⟨by rw [hE, this], rfl⟩
theorem expQ_bd {x : Int} (hx : x ≤ 0) : 0 ≤ expQ x ∧ expQ x ≤ 2147483648 := by
  have hy := expY_bd (Int.emod_nonneg x (show (65536 : Int) ≠ 0 by omega)) (Int.emod_lt_of_pos x (show (0 : Int) < 65536 by omega))
  unfold expQ
  split
  · omega
  · have := (ediv_bd (x := expY (x % 65536)) (d := 2 ^ (-(x / 65536)).toNat) (by have := Int.pow_pos (n := 2) (m := (-(x / 65536)).toNat) (by omega); omega)).1 (by omega)
    omega
/-- how much of 64 goes through -/
def softP (x : Int) : Int := 68719476736 / (1073741824 + expQ (-8192 * x))
def softQ (x : Int) : Int := if x < 0 then 64 - softP (-x) else softP x
theorem softP_bd {x : Int} (h0 : 0 ≤ x) : 0 ≤ softP x ∧ softP x ≤ 64 := by
  have h := expQ_bd (x := -8192 * x) (by omega)
  unfold softP
  refine ⟨Int.ediv_nonneg (by omega) (by omega), ?_⟩
  have : 68719476736 / (1073741824 + expQ (-8192 * x)) ≤ 68719476736 / 1073741824 := by
    refine Int.le_ediv_of_mul_le (by omega) ?_
    have h2 := Int.ediv_mul_le 68719476736 (show 1073741824 + expQ (-8192 * x) ≠ 0 by omega)
    have h3 : 0 ≤ 68719476736 / (1073741824 + expQ (-8192 * x)) := Int.ediv_nonneg (by omega) (by omega)
    refine Int.le_trans (Int.mul_le_mul_of_nonneg_left (by omega) h3) h2
  omega
theorem softQ_bd (x : Int) : 0 ≤ softQ x ∧ softQ x ≤ 64 := by
  unfold softQ
  split
  · have := softP_bd (x := -x) (by omega); omega
  · exact softP_bd (by omega)
theorem refSoftP (x : Int) (w : World) (h0 : 0 ≤ x) (h1 : x ≤ 1000) : CallsF Tryz.prog 115 [i64 x] w fun r w' => r = i64 (softP x) ∧ w' = w := by
  have hb := expQ_bd (x := -8192 * x) (by omega)
  refine callsF Tryz.func115 rfl rfl (by decide) rfl ?_
  refine sC [] rfl ?_; refine sC [] rfl ?_; refine sD [] rfl ?_; refine sD [] rfl ?_
  rw [show decide (x < 0) = false from decide_eq_false (by omega)]
  refine sA [] rfl ?_; refine ev_arith rfl rfl rfl rfl rfl (by simp only [lowK, hiK]; omega) ?_
  refine ev_call rfl rfl rfl (refExp2 (-8192 * x) _ (by omega)) (fun r w1 hr => ?_)
  obtain ⟨rfl, rfl⟩ := hr
  refine ev_arith rfl rfl rfl rfl rfl (by simp only [lowK, hiK]; omega) ?_
  refine ev_call rfl rfl rfl (refFloor 68719476736 (1073741824 + expQ (-8192 * x)) _ ⟨by omega, by omega⟩ (by omega)) (fun r w2 hr => ?_)
  obtain ⟨rfl, rfl⟩ := hr
  refine sA [] rfl ?_
  exact ret1 (.inr rfl) rfl rfl ⟨rfl, rfl⟩
theorem refSoft (x : Int) (w : World) (h : -1000 ≤ x ∧ x ≤ 1000) : CallsF Tryz.prog 115 [i64 x] w fun r w' => r = i64 (softQ x) ∧ w' = w := by
  by_cases h0 : x < 0
  · have hb := softP_bd (x := -x) (by omega)
    refine callsF Tryz.func115 rfl rfl (by decide) rfl ?_
    refine sC [] rfl ?_; refine sC [] rfl ?_; refine sD [] rfl ?_; refine sD [] rfl ?_
    rw [show decide (x < 0) = true from decide_eq_true h0]
    refine sA [] rfl ?_
    rw [show IntKind.i64.wrap (0 - x) = -x from (wrapK (by simp only [lowK, hiK]; omega)).trans (by omega)]
    refine ev_call rfl rfl rfl (refSoftP (-x) _ (by omega) (by omega)) (fun r w1 hr => ?_)
    obtain ⟨rfl, rfl⟩ := hr
    refine ev_arith rfl rfl rfl rfl rfl (by simp only [lowK, hiK]; omega) ?_; refine sA [] rfl ?_
    exact ret1 (.inr rfl) rfl rfl ⟨by unfold softQ; rw [if_pos h0], rfl⟩
  · exact (refSoftP x w (by omega) h.2).mono fun v w' hv => ⟨by rw [hv.1]; unfold softQ; rw [if_neg h0], hv.2⟩
/-- the usual bend of a number -/
def bendQ (x : Int) : Int := narrowQ (roundQ (x * softQ x) 6)
theorem soft_mul {x : Int} (h : -1000 ≤ x ∧ x ≤ 1000) : -64000 ≤ x * softQ x ∧ x * softQ x ≤ 64000 := by
  have h2 := softQ_bd x
  rcases Int.le_total 0 x with h0 | h0
  · have a1 : 0 ≤ x * softQ x := Int.mul_nonneg h0 h2.1
    have a2 : x * softQ x ≤ x * 64 := Int.mul_le_mul_of_nonneg_left h2.2 h0
    omega
  · have a1 : x * 64 ≤ x * softQ x := Int.mul_le_mul_of_nonpos_left h0 h2.2
    have a2 : x * softQ x ≤ x * 0 := Int.mul_le_mul_of_nonpos_left h0 h2.1
    omega
theorem refBent (x : Int) (w : World) (h : -1000 ≤ x ∧ x ≤ 1000) : CallsF Tryz.prog 82 [i64 2, i64 x] w fun r w' => r = .int .i8 (bendQ x) ∧ w' = w := by
  have hm := soft_mul h
  refine callsF Tryz.func82 rfl rfl (by decide) rfl ?_
  refine sA [] rfl ?_
  refine ev_call rfl rfl rfl (refSoft x _ h) (fun r w1 hr => ?_)
  obtain ⟨rfl, rfl⟩ := hr
  refine ev_arith rfl rfl rfl rfl rfl (by simp only [lowK, hiK]; omega) ?_
  refine ev_call rfl rfl rfl (refRound (x * softQ x) 6 _ ⟨by omega, by omega⟩ (by omega)) (fun r w2 hr => ?_)
  obtain ⟨rfl, rfl⟩ := hr
  refine sA [] rfl ?_
  refine ev_call rfl rfl rfl (refNarrow (roundQ (x * softQ x) 6) _) (fun r w3 hr => ?_)
  obtain ⟨rfl, rfl⟩ := hr
  refine sA [] rfl ?_
  exact ret1 (.inr rfl) rfl rfl ⟨rfl, rfl⟩
end Go.Wk.YtdelgnflcfhhkaaGreatDoor
namespace Go.Wk.YtdelgnflcfhhkaaGreatDoor
open Go Go.Wk Go.Proofs
/-! ### rows that are written -/
abbrev R8 (w : World) (q : Nat) (xs : List Int8) : Prop := Blk w q (xs.map i8v) 177
theorem R8.set {xs : List Int8} {o : Nat} {x : Int8} : setV (xs.map i8v) o (i8v x) = (xs.set o x).map i8v := by rw [setV_eq, List.map_set]
theorem N8.of {w0 w : World} {q : Nat} {xs : List Int8} (h : R8 w q xs) (hq : w0.heap.size ≤ q) (hf : Fr no w0 w) (hl : xs.length ≤ 1000000000) : N8 w0 w (.slice (some ⟨q, 0, none⟩) xs.length xs.length) xs :=
  ⟨own_of_blk h (by rw [List.length_map, Nat.mul_one]) (by omega), fun g hg => by cases hg; exact hq, hf⟩
/-- the usual bend, all of it -/
def s8 (i : Nat) : Int := IntKind.i8.wrap i
theorem s8_eq {i : Nat} (h : i < 256) : s8 i = if 127 < i then (i : Int) - 256 else i := by
  have key : ∀ n : Fin 256, s8 n.val = if 127 < n.val then (n.val : Int) - 256 else n.val := by decide +kernel
  exact key ⟨i, h⟩
theorem s8_bd {i : Nat} (h : i < 256) : -128 ≤ s8 i ∧ s8 i ≤ 127 := by
  rw [s8_eq h]; split <;> omega
def bendF (n : Nat) : List Int8 := (List.range n).map fun i => Int8.ofInt (bendQ (s8 i))
def BEND : List Int8 := bendF 256
theorem bendF_len (n : Nat) : (bendF n).length = n := by unfold bendF; simp
theorem bendF_succ (n : Nat) : bendF (n + 1) = bendF n ++ [Int8.ofInt (bendQ (s8 n))] := by unfold bendF; rw [List.range_succ, List.map_append]; rfl
theorem bend_v (i : Nat) : Value.int .i8 (bendQ (s8 i)) = i8v (Int8.ofInt (bendQ (s8 i))) := i8_of (by have := narrowQ_bd (roundQ (s8 i * softQ (s8 i)) 6); unfold bendQ; omega)
set_option maxRecDepth 20000 in
theorem refActTable (w : World) : CallsF Tryz.prog 44 [i64 2] w fun r w' => ∃ v, r = .tuple #[v, i64 0] ∧ N8 w w' v BEND := by
  refine callsF Tryz.func44 rfl rfl (by decide) rfl ?_
  refine sA [] rfl ?_
  refine ev_buildSlice tabOk rfl rfl rfl inf177 rfl rfl rfl (fun _ h => by cases h) rfl (fun b w1 hb hb1 hf1 => ?_)
  have hb1 : R8 w1 b [] := hb1
  have hN1 : N8 w w1 (.slice (some ⟨b, 0, none⟩) 0 0) (bendF 0) := N8.of hb1 hb hf1 (Nat.zero_le _)
  obtain ⟨N, hN0⟩ : ∃ N, N = 256 := ⟨_, rfl⟩
  refine sA [] rfl ?_
  refine ev_loop (α := Nat × Value) (fun y => [(0, i64 2), (4, y.2), (5, i64 y.1)]) (fun y w' => y.1 ≤ 256 ∧ N8 w w' y.2 (bendF y.1)) (fun y => N - y.1) (0, _) ⟨rfl, rfl, rfl, trivial⟩ ⟨Nat.zero_le _, hN1⟩ ?_
  clear hN1 hb1
  rintro ⟨i, v⟩ w2 ⟨hi, hN⟩
  simp only at hi hN
  have hbl := bendF_len i
  refine sC [] rfl ?_; refine sD [] rfl ?_; refine sD [] rfl ?_
  refine ev_condD rfl (fun c => ?_) (fun c => ?_)
  · have hi : i < 256 := by omega
    have hs := s8_eq hi
    have hsb := s8_bd hi
    refine sC [] rfl ?_; refine sC [] rfl ?_; refine sC [] rfl ?_; refine sD [] rfl ?_; refine sD [] rfl ?_
    refine ev_cut (α := Unit) (fun y => [(0, i64 2), (4, v), (5, i64 i), (6, i64 (s8 i))]) (fun y w' => w' = w2) ?_ ?_
    · refine ev_condD rfl (fun d => ?_) (fun d => ?_)
      · rw [if_pos (by omega)] at hs
        refine sA [] rfl ?_; refine ev_arith rfl rfl rfl rfl rfl (by simp only [lowK, hiK]; omega) ?_; refine sA [] rfl ?_
        exact ev_out () rfl ⟨rfl, rfl, rfl, by rw [hs]; rfl, trivial⟩
      · rw [if_neg (by omega)] at hs
        refine sA [] rfl ?_
        exact ev_out () rfl ⟨rfl, rfl, rfl, by rw [hs]; rfl, trivial⟩
    · rintro ⟨⟩ w3 rfl
      refine sA [] rfl ?_
      refine ev_call rfl rfl rfl (refBent (s8 i) _ (by omega)) (fun r w4 hr => ?_)
      obtain ⟨rfl, rfl⟩ := hr
      rw [bend_v]
      refine ev_append1 tabOk rfl rfl (fun _ => rfl) rfl rfl inf177 rfl (by omega) (fun _ => rfl) rfl rfl (by simp [Value.cells]) (by simp [flatV, Value.cells, Value.oneCell']) rfl hN.1 (by omega) (fun v5 w5 g ho5 hf5 hn5 => ?_)
      have hN5 := hN.app (ys := [Int8.ofInt (bendQ (s8 i))]) ho5 hf5 hn5
      rw [← bendF_succ] at hN5
      refine sA [] rfl ?_; refine ev_arith rfl rfl rfl rfl rfl (by simp only [lowK, hiK]; omega) ?_; refine sA [] rfl ?_
      exact ev_next (i + 1, v5) (by simp only; omega) ⟨hi, hN5⟩ ⟨rfl, rfl, by rw [show ((i + 1 : Nat) : Int) = (i : Int) + 1 by omega]; rfl, trivial⟩
  · have hN : N8 w w2 v BEND := by rw [show i = 256 by omega] at hN; exact hN
    refine sA [] rfl ?_
    exact ret2 (.inr rfl) rfl rfl rfl ⟨v, rfl, hN⟩
end Go.Wk.YtdelgnflcfhhkaaGreatDoor
namespace Go.Wk.YtdelgnflcfhhkaaGreatDoor
open Go Go.Wk Go.Proofs
def sinT : List Int := [0, 2, 3, 5, 6, 8, 9, 11, 12, 14, 16, 17, 19, 20, 22, 23, 24, 26, 27, 29, 30, 32, 33, 34, 36, 37, 38, 39, 41, 42, 43, 44, 45, 46, 47, 48, 49, 50, 51, 52, 53, 54, 55, 56, 56, 57, 58, 59, 59, 60, 60, 61, 61, 62, 62, 62, 63, 63, 63, 64, 64, 64, 64, 64, 64]
theorem sinT_bd (i : Nat) : 0 ≤ sinT.getD i 0 ∧ sinT.getD i 0 ≤ 64 := by
  rcases Nat.lt_or_ge i 65 with h | h
  · have key : ∀ i : Fin 65, 0 ≤ sinT.getD i.val 0 ∧ sinT.getD i.val 0 ≤ 64 := by decide
    exact key ⟨i, h⟩
  · rw [List.getD_eq_getElem?_getD, List.getElem?_eq_none (show sinT.length ≤ i from h)]
    exact ⟨by decide, by decide⟩
/-- the place of an angle in the table -/
def sinM (r : Int) : Int := if 128 - r % 128 < r % 128 then 128 - r % 128 else r % 128
def sineQ (a : Int) : Int := if 128 ≤ a % 256 then -sinT.getD (sinM (a % 256)).toNat 0 else sinT.getD (sinM (a % 256)).toNat 0
theorem sineQ_bd (a : Int) : -64 ≤ sineQ a ∧ sineQ a ≤ 64 := by
  have := sinT_bd (sinM (a % 256)).toNat
  unfold sineQ; split <;> omega
set_option maxRecDepth 20000 in
theorem refSine (a : Int) (w : World) (h0 : 0 ≤ a) (h1 : a ≤ 1000000000) : CallsF Tryz.prog 81 [i64 a] w fun r w' => r = .int .i8 (sineQ a) ∧ Fr no w w' := by
  have hr : 0 ≤ a % 256 ∧ a % 256 < 256 := by omega
  have hQ : sineQ a = if 128 ≤ a % 256 then -sinT.getD (sinM (a % 256)).toNat 0 else sinT.getD (sinM (a % 256)).toNat 0 := rfl
  have hM : sinM (a % 256) = if 128 - a % 256 % 128 < a % 256 % 128 then 128 - a % 256 % 128 else a % 256 % 128 := rfl
  refine callsF Tryz.func81 rfl rfl (by decide) rfl ?_
  refine sA [] rfl ?_
  refine ev_buildSlice tabOk rfl rfl rfl inf177 rfl rfl rfl (by simp [Value.cells]) rfl (fun g w1 hg hb hf => ?_)
  have hb : Blk w1 g (sinT.map fun n => .int .i8 n) 177 := hb
  have hc : ∀ m : Int, 0 ≤ m → m ≤ 64 → w1.cell? ⟨g, 0 + m.toNat * 1, none⟩ = some (.int .i8 (sinT.getD m.toNat 0)) := fun m h0 h1 => by
    rw [show 0 + m.toNat * 1 = m.toNat by omega]
    refine hb.cell ?_
    rw [nthV_eq, List.getElem?_map, List.getD_eq_getElem?_getD, List.getElem?_eq_getElem (show m.toNat < sinT.length by show m.toNat < 65; omega)]; rfl
  clear hb
  obtain ⟨r, hr0⟩ : ∃ r, r = a % 256 := ⟨_, rfl⟩
  rw [← hr0] at hr hQ hM
  refine sA [] rfl ?_; refine ev_rem rfl rfl rfl rfl (by omega) (by omega) ?_; refine sC [] rfl ?_; refine sC [] rfl ?_
  rw [← hr0]
  rw [show decide (r < 0) = false from decide_eq_false (by omega)]
  refine sC [] rfl ?_; refine sC [] rfl ?_
  refine ev_condD rfl (fun c1 => ?_) (fun c1 => ?_)
  · have e : sineQ a = sinT.getD r.toNat 0 := by rw [hQ, if_neg (by omega), hM, if_neg (by omega), show r % 128 = r by omega]
    refine sA [] rfl ?_
    refine ev_indexAddr (len := 65) (i := r) rfl rfl tabOk rfl rfl rfl (by omega) (by omega) ?_
    refine ev_load rfl rfl tabOk rfl rfl (hc r (by omega) (by omega)) ?_
    refine sA [] rfl ?_
    exact ret1 (.inr rfl) rfl rfl ⟨by rw [e], hf⟩
  refine sC [] rfl ?_; refine sD [] rfl ?_; refine sD [] rfl ?_; refine sD [] rfl ?_
  refine ev_condD rfl (fun c2 => ?_) (fun c2 => ?_)
  · have e : sineQ a = sinT.getD (128 - r).toNat 0 := by
      by_cases z : r = 128
      · rw [hQ, hM, z]; rfl
      · rw [hQ, if_neg (by omega), hM, if_pos (by omega), show 128 - r % 128 = 128 - r by omega]
    refine sA [] rfl ?_; refine ev_arith rfl rfl rfl rfl rfl (by simp only [lowK, hiK]; omega) ?_
    refine ev_indexAddr (len := 65) (i := 128 - r) rfl rfl tabOk rfl rfl rfl (by omega) (by omega) ?_
    refine ev_load rfl rfl tabOk rfl rfl (hc (128 - r) (by omega) (by omega)) ?_
    refine sA [] rfl ?_
    exact ret1 (.inr rfl) rfl rfl ⟨by rw [e], hf⟩
  refine sC [] rfl ?_; refine sD [] rfl ?_; refine sD [] rfl ?_; refine sD [] rfl ?_
  refine ev_condD rfl (fun c3 => ?_) (fun c3 => ?_)
  · have e : sineQ a = -sinT.getD (r - 128).toNat 0 := by rw [hQ, if_pos (by omega), hM, if_neg (by omega), show r % 128 = r - 128 by omega]
    have ht := sinT_bd (r - 128).toNat
    refine sA [] rfl ?_; refine ev_arith rfl rfl rfl rfl rfl (by simp only [lowK, hiK]; omega) ?_
    refine ev_indexAddr (len := 65) (i := r - 128) rfl rfl tabOk rfl rfl rfl (by omega) (by omega) ?_
    refine ev_load rfl rfl tabOk rfl rfl (hc (r - 128) (by omega) (by omega)) ?_
    refine sA [] rfl ?_
    rw [show IntKind.i8.wrap (0 - sinT.getD (r - 128).toNat 0) = -sinT.getD (r - 128).toNat 0 from (wrapK (by simp only [lowK, hiK]; omega)).trans (by omega)]
    exact ret1 (.inr rfl) rfl rfl ⟨by rw [e], hf⟩
  · have e : sineQ a = -sinT.getD (256 - r).toNat 0 := by rw [hQ, if_pos (by omega), hM, if_pos (by omega), show 128 - r % 128 = 256 - r by omega]
    have ht := sinT_bd (256 - r).toNat
    refine sA [] rfl ?_; refine ev_arith rfl rfl rfl rfl rfl (by simp only [lowK, hiK]; omega) ?_
    refine ev_indexAddr (len := 65) (i := 256 - r) rfl rfl tabOk rfl rfl rfl (by omega) (by omega) ?_
    refine ev_load rfl rfl tabOk rfl rfl (hc (256 - r) (by omega) (by omega)) ?_
    refine sA [] rfl ?_
    rw [show IntKind.i8.wrap (0 - sinT.getD (256 - r).toNat 0) = -sinT.getD (256 - r).toNat 0 from (wrapK (by simp only [lowK, hiK]; omega)).trans (by omega)]
    exact ret1 (.inr rfl) rfl rfl ⟨by rw [e], hf⟩
theorem sine_v (a : Int) : Value.int .i8 (sineQ a) = i8v (Int8.ofInt (sineQ a)) := i8_of (by have := sineQ_bd a; omega)
/-- the angles of a place -/
def angQ (p i : Nat) : Int := 64 * (p : Int) / 2 ^ i
theorem angQ_bd (p i : Nat) : 0 ≤ angQ p i ∧ angQ p i ≤ 64 * p := by
  have := (ediv_bd (x := 64 * (p : Int)) (d := 2 ^ i) (by have := Int.pow_pos (n := 2) (m := i) (by omega); omega)).1 (by omega)
  exact this
def cosR (p h : Nat) : List Int8 := (List.range h).map fun i => Int8.ofInt (sineQ (angQ p i + 64))
def sinR (p h : Nat) : List Int8 := (List.range h).map fun i => Int8.ofInt (sineQ (angQ p i))
def cosF (n h : Nat) : List Int8 := (List.range n).flatMap fun p => cosR p h
def sinF (n h : Nat) : List Int8 := (List.range n).flatMap fun p => sinR p h
theorem cosR_succ (p i : Nat) : cosR p (i + 1) = cosR p i ++ [Int8.ofInt (sineQ (angQ p i + 64))] := by unfold cosR; rw [List.range_succ, List.map_append]; rfl
theorem sinR_succ (p i : Nat) : sinR p (i + 1) = sinR p i ++ [Int8.ofInt (sineQ (angQ p i))] := by unfold sinR; rw [List.range_succ, List.map_append]; rfl
theorem cosF_succ (n h : Nat) : cosF (n + 1) h = cosF n h ++ cosR n h := by unfold cosF; rw [List.range_succ, List.flatMap_append]; simp
theorem sinF_succ (n h : Nat) : sinF (n + 1) h = sinF n h ++ sinR n h := by unfold sinF; rw [List.range_succ, List.flatMap_append]; simp
theorem cosF_len (n h : Nat) : (cosF n h).length = n * h := by
  induction n with
  | zero => simp [cosF]
  | succ n ih => rw [cosF_succ, List.length_append, ih, Nat.succ_mul]; simp [cosR]
theorem sinF_len (n h : Nat) : (sinF n h).length = n * h := by
  induction n with
  | zero => simp [sinF]
  | succ n ih => rw [sinF_succ, List.length_append, ih, Nat.succ_mul]; simp [sinR]
/-- two rows that grow side by side -/
def T8 (w0 w : World) (v : Value) (xs : List Int8) (u : Value) (ys : List Int8) : Prop := N8 w0 w v xs ∧ N8 w0 w u ys ∧ ∀ g, v.ownBlock = some g → u.ownBlock ≠ some g
theorem T8.swap {w0 w : World} {v u : Value} {xs ys : List Int8} (h : T8 w0 w v xs u ys) : T8 w0 w u ys v xs := ⟨h.2.1, h.1, fun g hg e => h.2.2 g e hg⟩
theorem T8.fr {w0 w w' : World} {v u : Value} {xs ys : List Int8} (h : T8 w0 w v xs u ys) (hf : Fr no w w') : T8 w0 w' v xs u ys := ⟨h.1.fr hf, h.2.1.fr hf, h.2.2⟩
theorem T8.app {w0 w w' : World} {v v' u : Value} {xs ys zs : List Int8} (h : T8 w0 w v xs u ys) (ho : Own w' 177 1 v' (xs.length + zs.length) (xs.map i8v ++ zs.map i8v)) (hf : Fr (fun q => v.ownBlock = some q) w w') (hn : NB w v v') : T8 w0 w' v' (xs ++ zs) u ys := by
  have h1 := h.1.app ho hf hn
  refine ⟨h1, ⟨h.2.1.1.fr hf fun g hg z => h.2.2 g z hg, h.2.1.2.1, h1.2.2⟩, fun g hg e => ?_⟩
  rcases hn g hg with z | z
  · exact h.2.2 g z e
  · have := h.2.1.1.lt e; omega
set_option maxHeartbeats 2000000 in
theorem refRopeTable (n h : Nat) (w : World) (hn : 1 ≤ n ∧ n ≤ 512) (hh : 1 ≤ h ∧ h ≤ 32) : CallsF Tryz.prog 42 [i64 n, i64 h] w fun r w' => ∃ v u, r = .tuple #[v, u, i64 0] ∧ T8 w w' v (cosF n h) u (sinF n h) := by
  refine callsF Tryz.func42 rfl rfl (by decide) rfl ?_
  refine sC [] rfl ?_; refine sC [] rfl ?_; refine sC [] rfl ?_
  rw [show decide ((n : Int) < 1) = false from decide_eq_false (by omega)]
  refine sC [] rfl ?_
  rw [show decide ((512 : Int) < n) = false from decide_eq_false (by omega)]
  refine sC [] rfl ?_
  rw [show decide ((h : Int) < 1) = false from decide_eq_false (by omega)]
  refine sC [] rfl ?_
  rw [show decide ((32 : Int) < h) = false from decide_eq_false (by omega)]
  refine sA [] rfl ?_
  refine ev_buildSlice tabOk rfl rfl rfl inf177 rfl rfl rfl (fun _ h => by cases h) rfl (fun b wb hb hB hfb => ?_)
  have hB : R8 wb b [] := hB
  refine ev_buildSlice tabOk rfl rfl rfl inf177 rfl rfl rfl (fun _ h => by cases h) rfl (fun c wc hc hC hfc => ?_)
  have hC : R8 wc c [] := hC
  have hbl := hB.lt
  have hN0 : T8 w wc (.slice (some ⟨b, 0, none⟩) 0 0) (cosF 0 h) (.slice (some ⟨c, 0, none⟩) 0 0) (sinF 0 h) :=
    ⟨(N8.of (xs := []) hB hb hfb (Nat.zero_le _)).fr hfc, N8.of (xs := []) hC (by have := hfb.size; omega) (hfb.tr hfc) (Nat.zero_le _), fun g hg e => by cases hg; cases e; omega⟩
  clear hB hC hfb hfc
  refine sA [] rfl ?_
  refine ev_loop (α := Nat × Value × Value) (fun y => [(0, i64 n), (1, i64 h), (7, y.2.1), (8, y.2.2), (9, i64 y.1)]) (fun y w' => y.1 ≤ n ∧ T8 w w' y.2.1 (cosF y.1 h) y.2.2 (sinF y.1 h)) (fun y => n - y.1) (0, _, _) ⟨rfl, rfl, rfl, rfl, rfl, trivial⟩ ⟨Nat.zero_le _, hN0⟩ ?_
  clear hN0
  rintro ⟨p, v, u⟩ w1 ⟨hp, hN⟩
  simp only at hp hN
  refine sC [] rfl ?_; refine sD [] rfl ?_; refine sD [] rfl ?_; refine sD [] rfl ?_
  refine ev_condD rfl (fun c => ?_) (fun c => ?_)
  · have hp : p < n := by omega
    have hmul : p * h ≤ 512 * 32 := Nat.mul_le_mul (by omega) (by omega)
    have hlc := cosF_len p h
    have hls := sinF_len p h
    refine sA [] rfl ?_
    refine ev_loop (α := Nat × Value × Value) (fun y => [(0, i64 n), (1, i64 h), (7, y.2.1), (8, y.2.2), (9, i64 p), (10, i64 (2 ^ y.1)), (11, i64 y.1)]) (fun y w' => y.1 ≤ h ∧ T8 w w' y.2.1 (cosF p h ++ cosR p y.1) y.2.2 (sinF p h ++ sinR p y.1)) (fun y => h - y.1) (0, v, u) ⟨rfl, rfl, rfl, rfl, rfl, rfl, rfl, trivial⟩ ⟨Nat.zero_le _, by
      have e1 : cosR p 0 = [] := rfl
      have e2 : sinR p 0 = [] := rfl
      simp only [e1, e2, List.append_nil]; exact hN⟩ ?_
    clear hN
    rintro ⟨i, v1, u1⟩ w2 ⟨hi, hN⟩
    simp only at hi hN
    have hlR : (cosR p i).length = i := by simp [cosR]
    have hlS : (sinR p i).length = i := by simp [sinR]
    refine sC [] rfl ?_; refine sD [] rfl ?_; refine sD [] rfl ?_; refine sD [] rfl ?_
    refine ev_condD rfl (fun c2 => ?_) (fun c2 => ?_)
    · have hi : i < h := by omega
      have hab := angQ_bd p i
      have hp2 := pow_bd (s := i) (by omega)
      have hp3 := pow_bd (s := i + 1) (by omega)
      have e3 : (2 : Int) ^ i * 2 = 2 ^ (i + 1) := (Int.pow_succ 2 i).symm
      refine sA [] rfl ?_; refine ev_arith rfl rfl rfl rfl rfl (by simp only [lowK, hiK]; omega) ?_; refine sA [] rfl ?_
      refine ev_quo (a := 64 * (p : Int)) (b := 2 ^ i) rfl rfl rfl rfl (by omega) (by omega) (by simp only [hiK]; omega) ?_
      rw [show 64 * (p : Int) / 2 ^ i = angQ p i from rfl]
      refine sA [] rfl ?_; refine ev_arith rfl rfl rfl rfl rfl (by simp only [lowK, hiK]; omega) ?_
      refine ev_call rfl rfl rfl (refSine (angQ p i + 64) _ (by omega) (by omega)) (fun r w3 hr => ?_)
      obtain ⟨rfl, hf3⟩ := hr
      have hN := hN.fr hf3
      rw [sine_v]
      refine ev_append1 tabOk rfl rfl (fun _ => rfl) rfl rfl inf177 rfl (by omega) (fun _ => rfl) rfl rfl (by simp [Value.cells]) (by simp [flatV, Value.cells, Value.oneCell']) rfl hN.1.1 (by rw [List.length_append]; omega) (fun v4 w4 g ho4 hf4 hn4 => ?_)
      have hN4 := hN.app (zs := [Int8.ofInt (sineQ (angQ p i + 64))]) ho4 hf4 hn4
      rw [List.append_assoc, ← cosR_succ] at hN4
      clear hN
      refine sA [] rfl ?_
      refine ev_call rfl rfl rfl (refSine (angQ p i) _ (by omega) (by omega)) (fun r w5 hr => ?_)
      obtain ⟨rfl, hf5⟩ := hr
      have hN5 := hN4.fr hf5
      clear hN4
      rw [sine_v]
      refine ev_append1 tabOk rfl rfl (fun _ => rfl) rfl rfl inf177 rfl (by omega) (fun _ => rfl) rfl rfl (by simp [Value.cells]) (by simp [flatV, Value.cells, Value.oneCell']) rfl hN5.2.1.1 (by rw [List.length_append]; omega) (fun v6 w6 g6 ho6 hf6 hn6 => ?_)
      have hN6 := (hN5.swap.app (zs := [Int8.ofInt (sineQ (angQ p i))]) ho6 hf6 hn6).swap
      rw [List.append_assoc, ← sinR_succ] at hN6
      refine sA [] rfl ?_; refine ev_arith rfl rfl rfl rfl rfl (by simp only [lowK, hiK]; omega) ?_; refine sA [] rfl ?_; refine ev_arith rfl rfl rfl rfl rfl (by simp only [lowK, hiK]; omega) ?_; refine sA [] rfl ?_
      exact ev_next (i + 1, v4, v6) (by simp only; omega) ⟨hi, hN6⟩ ⟨rfl, rfl, rfl, rfl, rfl, by rw [← e3]; rfl, by rw [show ((i + 1 : Nat) : Int) = (i : Int) + 1 by omega]; rfl, trivial⟩
    · obtain rfl : i = h := by omega
      rw [← cosF_succ, ← sinF_succ] at hN
      refine sA [] rfl ?_; refine ev_arith rfl rfl rfl rfl rfl (by simp only [lowK, hiK]; omega) ?_; refine sA [] rfl ?_
      exact ev_next (p + 1, v1, u1) (by simp only; omega) ⟨hp, hN⟩ ⟨rfl, rfl, rfl, rfl, by rw [show ((p + 1 : Nat) : Int) = (p : Int) + 1 by omega]; rfl, trivial⟩
  · obtain rfl : p = n := by omega
    refine sA [] rfl ?_
    exact ret3 (.inr rfl) rfl rfl rfl rfl ⟨v, u, rfl, hN⟩
end Go.Wk.YtdelgnflcfhhkaaGreatDoor
