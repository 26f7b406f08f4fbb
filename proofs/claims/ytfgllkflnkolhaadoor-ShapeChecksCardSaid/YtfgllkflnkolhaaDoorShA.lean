/-
  Chapter 16: numbers rounded (chapter 2), the program's and the document's.
-/
import Derived.Test.YtfgllkflnkolhaaDoorVoA
import Derived.Test.YtfgllkflnkolhaaDoorBits
set_option linter.unusedVariables false
namespace Go.Wk.YtfgllkflnkolhaaDoor
open Go Go.Wk Go.Proofs

theorem tq {x d : Int} (hd : 1 ≤ d) : (x.tmod d < 0 → x / d = x.tdiv d - 1 ∧ x % d = x.tmod d + d) ∧ (¬ x.tmod d < 0 → x / d = x.tdiv d ∧ x % d = x.tmod d) ∧ -d < x.tmod d ∧ x.tmod d < d := by
  have h1 := Int.tmod_add_mul_tdiv x d
  have h2 := Int.tmod_lt_of_pos x (show 0 < d by omega)
  have h3 := Int.lt_tmod_of_pos x (show 0 < d by omega)
  refine ⟨fun h => (Int.ediv_emod_unique (by omega)).2 ⟨?_, by omega, by omega⟩, fun h => (Int.ediv_emod_unique (by omega)).2 ⟨h1, by omega, h2⟩, h3, h2⟩
  rw [Int.mul_sub, Int.mul_one]; omega
theorem tdiv_abs (x d : Int) : (x.tdiv d).natAbs ≤ x.natAbs := Int.natAbs_tdiv_le_natAbs x d
theorem ediv_bd {x d : Int} (hd : 1 ≤ d) : (0 ≤ x → 0 ≤ x / d ∧ x / d ≤ x) ∧ (x < 0 → x ≤ x / d ∧ x / d < 0) := by
  have h := Int.mul_ediv_add_emod x d
  have h1 := Int.emod_nonneg x (show d ≠ 0 by omega)
  have h2 := Int.emod_lt_of_pos x (show 0 < d by omega)
  refine ⟨fun h0 => ⟨Int.ediv_nonneg h0 (by omega), Int.ediv_le_self _ h0⟩, fun h0 => ?_⟩
  have h3 : x / d < 0 := Int.ediv_neg_of_neg_of_pos h0 (by omega)
  refine ⟨?_, h3⟩
  refine (Int.le_ediv_iff_mul_le (by omega)).2 ?_
  have h4 : x * d ≤ x * 1 := Int.mul_le_mul_of_nonpos_left (by omega) hd
  omega
/-- the nearest quotient -/
def nearQ (x d : Int) : Int := if d - x % d < x % d ∨ (x % d = d - x % d ∧ x / d % 2 = 1) then x / d + 1 else x / d
def roundQ (x : Int) (s : Nat) : Int := nearQ x (2 ^ s)
theorem nearQ_bd {x d : Int} (hd : 1 ≤ d) : (0 ≤ x → 0 ≤ nearQ x d ∧ nearQ x d ≤ x + 1) ∧ (x < 0 → x ≤ nearQ x d ∧ nearQ x d ≤ 0) := by
  have h := ediv_bd (x := x) hd
  refine ⟨fun h0 => ?_, fun h0 => ?_⟩
  · have := h.1 h0
    unfold nearQ; split <;> omega
  · have := h.2 h0
    unfold nearQ; split <;> omega
theorem and1_i64 (q : Int) (h0 : -9223372036854775808 ≤ q) (h1 : q ≤ 9223372036854775807) : bits .and .i64 q 1 = q % 2 := by
  show IntKind.i64.wrap (((BitVec.ofInt 64 q &&& BitVec.ofInt 64 1 : BitVec 64).toNat : Nat) : Int) = _
  rw [BitVec.toNat_and, show (BitVec.ofInt 64 1).toNat = 1 by decide, Nat.and_one_is_mod, BitVec.toNat_ofInt]
  have h2 : (((q % ((2 ^ 64 : Nat) : Int)).toNat % 2 : Nat) : Int) = q % 2 := by omega
  rw [h2]
  exact wrapK (k := .i64) (by simp only [lowK, hiK]; omega)
abbrev okI (x : Int) : Prop := -4611686018427387904 ≤ x ∧ x ≤ 4611686018427387904

theorem wFloor (x d : Int) (w : World) (hx : okI x) (hd : 1 ≤ d ∧ d ≤ 4611686018427387904) : CallsF Tryd.prog 104 [i64 x, i64 d] w fun r w' => r = .tuple #[i64 (x / d), i64 (x % d), i64 0] ∧ Fr no w w' := by
  have h1 := tq (x := x) hd.1
  have h2 := tdiv_abs x d
  refine callsF Tryd.func104 rfl rfl (by decide) rfl ?_
  refine sC [] rfl ?_; refine sC [] rfl ?_; refine sC [] rfl ?_
  rw [show decide (d < 1) = false from decide_eq_false (by omega)]
  refine sA [] rfl ?_
  refine ev_draw mixed (by kernel_rfl) ?_
  refine qA rfl ?_
  refine q_y rfl rfl (y_quoT rfl rfl (by omega) (by simp only [lowK, hiK]; omega)) ?_
  refine qA rfl ?_
  refine q_remT rfl rfl rfl rfl (by omega) ?_
  refine qA rfl ?_
  refine q_end fun w1 hf1 => ?_
  refine sC [] rfl ?_; refine sD [] rfl ?_; refine sD [] rfl ?_
  refine ev_condD rfl (fun c => ?_) (fun c => ?_)
  · obtain ⟨e1, e2⟩ := h1.1 c
    refine sA [] rfl ?_; refine ev_arith rfl rfl rfl rfl rfl (by simp only [lowK, hiK]; omega) ?_; refine sA [] rfl ?_; refine ev_arith rfl rfl rfl rfl rfl (by simp only [lowK, hiK]; omega) ?_; refine sA [] rfl ?_
    exact ret3 (.inr rfl) rfl rfl rfl rfl ⟨by rw [e1, e2], hf1⟩
  · obtain ⟨e1, e2⟩ := h1.2.1 c
    refine sA [] rfl ?_
    exact ret3 (.inr rfl) rfl rfl rfl rfl ⟨by rw [e1, e2], hf1⟩
theorem refFloor (x d : Int) (w : World) (hx : okI x) (hd : 1 ≤ d ∧ d ≤ 4611686018427387904) : CallsF Tryd.prog 98 [i64 x, i64 d] w fun r w' => r = .tuple #[i64 (x / d), i64 (x % d), i64 0] ∧ w' = w := by
  have h1 := tq (x := x) hd.1
  have h2 := tdiv_abs x d
  refine callsF Tryd.func98 rfl rfl (by decide) rfl ?_
  refine sC [] rfl ?_; refine sC [] rfl ?_; refine sC [] rfl ?_
  rw [show decide (d < 1) = false from decide_eq_false (by omega)]
  refine sA [] rfl ?_
  refine ev_quoT rfl rfl rfl rfl (by omega) (by simp only [lowK, hiK]; omega) ?_
  refine sA [] rfl ?_
  refine ev_remT rfl rfl rfl rfl (by omega) ?_
  refine sC [] rfl ?_; refine sC [] rfl ?_
  refine ev_condD rfl (fun c => ?_) (fun c => ?_)
  · obtain ⟨e1, e2⟩ := h1.1 c
    refine sA [] rfl ?_; refine ev_arith rfl rfl rfl rfl rfl (by simp only [lowK, hiK]; omega) ?_; refine sA [] rfl ?_; refine ev_arith rfl rfl rfl rfl rfl (by simp only [lowK, hiK]; omega) ?_; refine sA [] rfl ?_
    exact ret3 (.inr rfl) rfl rfl rfl rfl ⟨by rw [e1, e2], rfl⟩
  · obtain ⟨e1, e2⟩ := h1.2.1 c
    refine sA [] rfl ?_
    exact ret3 (.inr rfl) rfl rfl rfl rfl ⟨by rw [e1, e2], rfl⟩

theorem wNear (x d : Int) (w : World) (hx : okI x) (hd : 1 ≤ d ∧ d ≤ 4611686018427387904) : CallsF Tryd.prog 109 [i64 x, i64 d] w fun r w' => r = .tuple #[i64 (nearQ x d), i64 0] ∧ Fr no w w' := by
  have h1 := ediv_bd (x := x) hd.1
  have h2 := Int.emod_nonneg x (show d ≠ 0 by omega)
  have h3 := Int.emod_lt_of_pos x (show 0 < d by omega)
  refine callsF Tryd.func109 rfl rfl (by decide) rfl ?_
  refine sA [] rfl ?_
  refine ev_call rfl rfl rfl (wFloor x d _ hx hd) (fun r w1 hr => ?_)
  obtain ⟨rfl, hf1⟩ := hr
  have e1 : nearQ x d = if d - x % d < x % d ∨ (x % d = d - x % d ∧ x / d % 2 = 1) then x / d + 1 else x / d := rfl
  obtain ⟨q, hq⟩ : ∃ q, q = x / d := ⟨_, rfl⟩
  obtain ⟨m, hm⟩ : ∃ m, m = x % d := ⟨_, rfl⟩
  rw [← hq] at h1
  rw [← hm] at h2 h3
  rw [← hq, ← hm] at e1 ⊢
  refine sA [] rfl ?_; refine ev_arith rfl rfl rfl rfl rfl (by simp only [lowK, hiK]; omega) ?_; refine sD [] rfl ?_; refine sD [] rfl ?_
  by_cases c1 : d - m < m
  · rw [if_pos (.inl c1)] at e1
    rw [show decide (d - m < m) = true from decide_eq_true c1]
    refine sA [] rfl ?_; refine ev_arith rfl rfl rfl rfl rfl (by simp only [lowK, hiK]; omega) ?_; refine sA [] rfl ?_
    exact ret2 (.inr rfl) rfl rfl rfl ⟨by rw [e1], hf1⟩
  · rw [show decide (d - m < m) = false from decide_eq_false c1]
    refine sA [] rfl ?_; refine ev_arith rfl rfl rfl rfl rfl (by simp only [lowK, hiK]; omega) ?_; refine sD [] rfl ?_; refine sD [] rfl ?_
    by_cases c2 : m = d - m
    · rw [show decide (m = d - m) = true from decide_eq_true c2]
      refine sC [] rfl ?_; refine sD [] rfl ?_; refine sD [] rfl ?_
      rw [and1_i64 q (by omega) (by omega)]
      skip
      refine ev_condD rfl (fun c3 => ?_) (fun c3 => ?_)
      · rw [if_pos (.inr ⟨c2, c3⟩)] at e1
        refine sA [] rfl ?_; refine ev_arith rfl rfl rfl rfl rfl (by simp only [lowK, hiK]; omega) ?_; refine sA [] rfl ?_
        exact ret2 (.inr rfl) rfl rfl rfl ⟨by rw [e1], hf1⟩
      · rw [if_neg (by omega)] at e1
        refine sA [] rfl ?_
        exact ret2 (.inr rfl) rfl rfl rfl ⟨by rw [e1], hf1⟩
    · rw [if_neg (by omega)] at e1
      rw [show decide (m = d - m) = false from decide_eq_false c2]
      refine sA [] rfl ?_
      exact ret2 (.inr rfl) rfl rfl rfl ⟨by rw [e1], hf1⟩
theorem refNear (x d : Int) (w : World) (hx : okI x) (hd : 1 ≤ d ∧ d ≤ 4611686018427387904) : CallsF Tryd.prog 97 [i64 x, i64 d] w fun r w' => r = .tuple #[i64 (nearQ x d), i64 0] ∧ w' = w := by
  have h1 := ediv_bd (x := x) hd.1
  have h2 := Int.emod_nonneg x (show d ≠ 0 by omega)
  have h3 := Int.emod_lt_of_pos x (show 0 < d by omega)
  refine callsF Tryd.func97 rfl rfl (by decide) rfl ?_
  refine sA [] rfl ?_
  refine ev_call rfl rfl rfl (refFloor x d _ hx hd) (fun r w1 hr => ?_)
  obtain ⟨rfl, rfl⟩ := hr
  have e1 : nearQ x d = if d - x % d < x % d ∨ (x % d = d - x % d ∧ x / d % 2 = 1) then x / d + 1 else x / d := rfl
  obtain ⟨q, hq⟩ : ∃ q, q = x / d := ⟨_, rfl⟩
  obtain ⟨m, hm⟩ : ∃ m, m = x % d := ⟨_, rfl⟩
  rw [← hq] at h1
  rw [← hm] at h2 h3
  rw [← hq, ← hm] at e1 ⊢
  have ht := tq (x := q) (d := 2) (by omega)
  refine sA [] rfl ?_; refine ev_arith rfl rfl rfl rfl rfl (by simp only [lowK, hiK]; omega) ?_; refine sD [] rfl ?_; refine sD [] rfl ?_
  by_cases c1 : d - m < m
  · rw [if_pos (.inl c1)] at e1
    rw [show decide (d - m < m) = true from decide_eq_true c1]
    refine sA [] rfl ?_; refine ev_arith rfl rfl rfl rfl rfl (by simp only [lowK, hiK]; omega) ?_; refine sA [] rfl ?_
    exact ret2 (.inr rfl) rfl rfl rfl ⟨by rw [e1], rfl⟩
  · rw [show decide (d - m < m) = false from decide_eq_false c1]
    refine sA [] rfl ?_; refine ev_arith rfl rfl rfl rfl rfl (by simp only [lowK, hiK]; omega) ?_; refine sD [] rfl ?_; refine sD [] rfl ?_
    by_cases c2 : m = d - m
    · rw [show decide (m = d - m) = true from decide_eq_true c2]
      refine sA [] rfl ?_
      refine ev_remT rfl rfl rfl rfl (by omega) ?_
      refine sC [] rfl ?_
      refine ev_condD rfl (fun c3 => ?_) (fun c3 => ?_)
      · rw [if_pos (.inr ⟨c2, by by_cases z : q.tmod 2 < 0; have := ht.1 z; omega; have := ht.2.1 z; omega⟩)] at e1
        refine sA [] rfl ?_; refine ev_arith rfl rfl rfl rfl rfl (by simp only [lowK, hiK]; omega) ?_; refine sA [] rfl ?_
        exact ret2 (.inr rfl) rfl rfl rfl ⟨by rw [e1], rfl⟩
      · rw [if_neg (by have : q.tmod 2 = 0 := Decidable.not_not.1 c3; have := ht.2.1 (by omega); omega)] at e1
        refine sA [] rfl ?_
        exact ret2 (.inr rfl) rfl rfl rfl ⟨by rw [e1], rfl⟩
    · rw [if_neg (by omega)] at e1
      rw [show decide (m = d - m) = false from decide_eq_false c2]
      refine sA [] rfl ?_
      exact ret2 (.inr rfl) rfl rfl rfl ⟨by rw [e1], rfl⟩
theorem pow_bd {s : Nat} (h : s ≤ 62) : (1 : Int) ≤ 2 ^ s ∧ (2 : Int) ^ s ≤ 4611686018427387904 := by
  have h1 : (2 : Nat) ^ s ≤ 2 ^ 62 := Nat.pow_le_pow_right (by omega) h
  have h2 : 0 < (2 : Nat) ^ s := Nat.pow_pos (by omega)
  have h3 : (2 : Int) ^ s = ((2 ^ s : Nat) : Int) := by rw [Int.natCast_pow]; rfl
  rw [h3]
  omega
theorem wRound (x : Int) (s : Nat) (w : World) (hx : okI x) (hs : s ≤ 62) : CallsF Tryd.prog 93 [i64 x, i64 s] w fun r w' => r = .tuple #[i64 (roundQ x s), i64 0] ∧ Fr no w w' := by
  have hp := pow_bd hs
  refine callsF Tryd.func93 rfl rfl (by decide) rfl ?_
  refine sC [] rfl ?_; refine sC [] rfl ?_; refine sC [] rfl ?_; refine sD [] rfl ?_; refine sD [] rfl ?_; refine sD [] rfl ?_
  rw [show decide ((s : Int) < 0) = false from decide_eq_false (by omega)]
  skip
  rw [show decide ((62 : Int) < s) = false from decide_eq_false (by omega)]
  refine sC [] rfl ?_; refine sD [] rfl ?_; refine sD [] rfl ?_
  refine ev_y rfl rfl (y_shl rfl rfl (by omega) (by show (s : Int) ≤ ((64 : Nat) : Int); omega)) ?_
  rw [show IntKind.i64.wrap (1 * 2 ^ ((s : Nat) : Int).toNat) = 2 ^ s by rw [Int.toNat_natCast, Int.one_mul]; exact wrapK (k := .i64) (by simp only [lowK, hiK]; omega)]
  refine ev_call rfl rfl rfl (wNear x (2 ^ s) _ hx hp) (fun r w1 hr => ?_)
  obtain ⟨rfl, hf1⟩ := hr
  refine sA [] rfl ?_
  exact ret2 (.inr rfl) rfl rfl rfl ⟨rfl, hf1⟩
theorem refRound (x : Int) (s : Nat) (w : World) (hx : okI x) (hs : s ≤ 62) : CallsF Tryd.prog 79 [i64 x, i64 s] w fun r w' => r = .tuple #[i64 (roundQ x s), i64 0] ∧ w' = w := by
  refine callsF Tryd.func79 rfl rfl (by decide) rfl ?_
  refine sC [] rfl ?_; refine sC [] rfl ?_; refine sC [] rfl ?_; refine sD [] rfl ?_; refine sD [] rfl ?_; refine sD [] rfl ?_
  rw [show decide ((s : Int) < 0) = false from decide_eq_false (by omega)]
  skip
  rw [show decide ((62 : Int) < s) = false from decide_eq_false (by omega)]
  refine sA [] rfl ?_
  refine ev_loop (α := Nat) (fun y => [(0, i64 x), (1, i64 s), (6, i64 (2 ^ y)), (7, i64 y)]) (fun y w' => y ≤ s ∧ w' = w) (fun y => s - y) 0 ⟨rfl, rfl, rfl, rfl, trivial⟩ ⟨Nat.zero_le _, rfl⟩ ?_
  rintro y w' ⟨hy, rfl⟩
  have hp := pow_bd (s := y) (by omega)
  refine sC [] rfl ?_; refine sD [] rfl ?_; refine sD [] rfl ?_; refine sD [] rfl ?_
  refine ev_condD rfl (fun c => ?_) (fun c => ?_)
  · have hp1 := pow_bd (s := y + 1) (by omega)
    have e : (2 : Int) ^ y * 2 = 2 ^ (y + 1) := (Int.pow_succ 2 y).symm
    refine sA [] rfl ?_; refine ev_arith rfl rfl rfl rfl rfl (by simp only [lowK, hiK]; omega) ?_; refine sA [] rfl ?_; refine ev_arith rfl rfl rfl rfl rfl (by simp only [lowK, hiK]; omega) ?_; refine sA [] rfl ?_
    exact ev_next (y + 1) (by omega) ⟨by omega, rfl⟩ ⟨rfl, rfl, by rw [← e]; rfl, by rw [show ((y + 1 : Nat) : Int) = (y : Int) + 1 by omega]; rfl, trivial⟩
  · obtain rfl : y = s := by omega
    refine sA [] rfl ?_
    refine ev_call rfl rfl rfl (refNear x (2 ^ y) _ hx hp) (fun r w1 hr => ?_)
    obtain ⟨rfl, rfl⟩ := hr
    refine sA [] rfl ?_
    exact ret2 (.inr rfl) rfl rfl rfl ⟨rfl, rfl⟩
def clampQ (x lo hi : Int) : Int := if x < lo then lo else if hi < x then hi else x
theorem wClamp (x lo hi : Int) (w : World) : CallsF Tryd.prog 112 [i64 x, i64 lo, i64 hi] w fun r w' => r = i64 (clampQ x lo hi) ∧ w' = w := by
  refine callsF Tryd.func112 rfl rfl (by decide) rfl ?_
  refine sC [] rfl ?_; refine sC [] rfl ?_; refine sC [] rfl ?_; refine sD [] rfl ?_
  refine ev_condD rfl (fun c => ?_) (fun c => ?_)
  · refine sA [] rfl ?_
    exact ret1 (.inr rfl) rfl rfl ⟨by unfold clampQ; rw [if_pos c], rfl⟩
  · refine sC [] rfl ?_; refine sD [] rfl ?_; refine sD [] rfl ?_; refine sD [] rfl ?_
    refine ev_condD rfl (fun c2 => ?_) (fun c2 => ?_)
    · refine sA [] rfl ?_
      exact ret1 (.inr rfl) rfl rfl ⟨by unfold clampQ; rw [if_neg c, if_pos c2], rfl⟩
    · refine sA [] rfl ?_
      exact ret1 (.inr rfl) rfl rfl ⟨by unfold clampQ; rw [if_neg c, if_neg c2], rfl⟩
theorem refClamp (x lo hi : Int) (w : World) : CallsF Tryd.prog 100 [i64 x, i64 lo, i64 hi] w fun r w' => r = i64 (clampQ x lo hi) ∧ w' = w := by
  refine callsF Tryd.func100 rfl rfl (by decide) rfl ?_
  refine sC [] rfl ?_; refine sC [] rfl ?_; refine sD [] rfl ?_; refine sD [] rfl ?_; refine sD [] rfl ?_
  refine ev_condD rfl (fun c => ?_) (fun c => ?_)
  · refine sA [] rfl ?_
    exact ret1 (.inr rfl) rfl rfl ⟨by unfold clampQ; rw [if_pos c], rfl⟩
  · refine sC [] rfl ?_; refine sC [] rfl ?_
    refine ev_condD rfl (fun c2 => ?_) (fun c2 => ?_)
    · refine sA [] rfl ?_
      exact ret1 (.inr rfl) rfl rfl ⟨by unfold clampQ; rw [if_neg c, if_pos c2], rfl⟩
    · refine sA [] rfl ?_
      exact ret1 (.inr rfl) rfl rfl ⟨by unfold clampQ; rw [if_neg c, if_neg c2], rfl⟩
/-- a number of 8 bits, as a value -/
abbrev i8v (x : Int8) : Value := .int .i8 x.toInt
def narrowQ (x : Int) : Int := clampQ x (-127) 127
theorem narrowQ_bd (x : Int) : -127 ≤ narrowQ x ∧ narrowQ x ≤ 127 := by unfold narrowQ clampQ; split; omega; split <;> omega
theorem wNarrow (x : Int) (w : World) : CallsF Tryd.prog 103 [i64 x] w fun r w' => r = .int .i8 (narrowQ x) ∧ w' = w := by
  have h := narrowQ_bd x
  refine callsF Tryd.func103 rfl rfl (by decide) rfl ?_
  refine sA [] rfl ?_
  refine ev_call rfl rfl rfl (wClamp x (-127) 127 _) (fun r w1 hr => ?_)
  obtain ⟨rfl, rfl⟩ := hr
  rw [show clampQ x (-127) 127 = narrowQ x from rfl]
  refine ev_conv rfl rfl tabOk rfl rfl rfl (by simp only [lowK, hiK]; omega) ?_; refine sA [] rfl ?_
  exact ret1 (.inr rfl) rfl rfl ⟨rfl, rfl⟩
theorem refNarrow (x : Int) (w : World) : CallsF Tryd.prog 81 [i64 x] w fun r w' => r = .int .i8 (narrowQ x) ∧ w' = w := by
  have h := narrowQ_bd x
  refine callsF Tryd.func81 rfl rfl (by decide) rfl ?_
  refine sA [] rfl ?_
  refine ev_call rfl rfl rfl (refClamp x (-127) 127 _) (fun r w1 hr => ?_)
  obtain ⟨rfl, rfl⟩ := hr
  rw [show clampQ x (-127) 127 = narrowQ x from rfl]
  refine ev_conv rfl rfl tabOk rfl rfl rfl (by simp only [lowK, hiK]; omega) ?_; refine sA [] rfl ?_
  exact ret1 (.inr rfl) rfl rfl ⟨rfl, rfl⟩

/-- 2 to a power, times 2^30 -/
def expY (t : Int) : Int := 1073741824 + (747400624 + (241400000 + 84941200 * t / 65536) * t / 65536) * t / 65536
def expQ (x : Int) : Int := if x / 65536 ≤ -31 then 0 else expY (x % 65536) / 2 ^ (-(x / 65536)).toNat
theorem expY_bd {t : Int} (h0 : 0 ≤ t) (h1 : t < 65536) : 1073741824 ≤ expY t ∧ expY t ≤ 2147483648 ∧ 0 ≤ 84941200 * t / 65536 ∧ 241400000 + 84941200 * t / 65536 ≤ 326341200 ∧ 0 ≤ (241400000 + 84941200 * t / 65536) * t / 65536 ∧ 747400624 + (241400000 + 84941200 * t / 65536) * t / 65536 ≤ 1073741824 := by
  have mb : ∀ {a m : Int}, 0 ≤ a → a ≤ m → 0 ≤ a * t / 65536 ∧ a * t / 65536 ≤ m := fun {a m} ha hm => by
    have e1 : 0 ≤ a * t := Int.mul_nonneg ha h0
    have e2 : a * t ≤ a * 65536 := Int.mul_le_mul_of_nonneg_left (by omega) ha
    omega
  have a1 := mb (a := 84941200) (m := 84941200) (by omega) (by omega)
  have a2 := mb (a := 241400000 + 84941200 * t / 65536) (m := 326341200) (by omega) (by omega)
  have a3 := mb (a := 747400624 + (241400000 + 84941200 * t / 65536) * t / 65536) (m := 1073741824) (by omega) (by omega)
  unfold expY
  omega
end Go.Wk.YtfgllkflnkolhaaDoor
