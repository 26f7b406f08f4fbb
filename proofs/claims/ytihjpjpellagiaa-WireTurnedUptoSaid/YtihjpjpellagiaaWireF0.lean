/-
  Plain facts: bits of bytes and words, groups of seven bits, the sum of a frame.
-/
import Derived.Test.YtihjpjpellagiaaWireZ
set_option linter.unusedVariables false
namespace Go.Wk.Ytihjpjpellagiaa
open Go Go.Wk

theorem bits_xor32 {a b : Nat} (ha : a < 2 ^ 32) (hb : b < 2 ^ 32) : bits .xor .u32 (a : Int) (b : Int) = ((a ^^^ b : Nat) : Int) := by
  show IntKind.u32.wrap (((BitVec.ofInt 32 (a : Int) ^^^ BitVec.ofInt 32 (b : Int) : BitVec 32).toNat : Nat) : Int) = _
  have h1 : (BitVec.ofInt 32 (a : Int)).toNat = a := by simp; omega
  have h2 : (BitVec.ofInt 32 (b : Int)).toNat = b := by simp; omega
  rw [BitVec.toNat_xor, h1, h2]
  have h3 : a ^^^ b < 2 ^ 32 := Nat.xor_lt_two_pow ha hb
  exact wrapK (k := .u32) (by simp only [lowK, hiK]; omega)
theorem bits_and32 {a b : Nat} (ha : a < 2 ^ 32) (hb : b < 2 ^ 32) : bits .and .u32 (a : Int) (b : Int) = ((a &&& b : Nat) : Int) := by
  show IntKind.u32.wrap (((BitVec.ofInt 32 (a : Int) &&& BitVec.ofInt 32 (b : Int) : BitVec 32).toNat : Nat) : Int) = _
  have h1 : (BitVec.ofInt 32 (a : Int)).toNat = a := by simp; omega
  have h2 : (BitVec.ofInt 32 (b : Int)).toNat = b := by simp; omega
  rw [BitVec.toNat_and, h1, h2]
  have h3 : a &&& b < 2 ^ 32 := Nat.and_lt_two_pow a hb
  exact wrapK (k := .u32) (by simp only [lowK, hiK]; omega)
theorem bits_and64 {a b : Nat} (ha : a < 2 ^ 64) (hb : b < 2 ^ 64) : bits .and .u64 (a : Int) (b : Int) = ((a &&& b : Nat) : Int) := by
  show IntKind.u64.wrap (((BitVec.ofInt 64 (a : Int) &&& BitVec.ofInt 64 (b : Int) : BitVec 64).toNat : Nat) : Int) = _
  have h1 : (BitVec.ofInt 64 (a : Int)).toNat = a := by simp; omega
  have h2 : (BitVec.ofInt 64 (b : Int)).toNat = b := by simp; omega
  rw [BitVec.toNat_and, h1, h2]
  have h3 : a &&& b < 2 ^ 64 := Nat.and_lt_two_pow a hb
  exact wrapK (k := .u64) (by simp only [lowK, hiK]; omega)
theorem bits_xor64 {a b : Nat} (ha : a < 2 ^ 64) (hb : b < 2 ^ 64) : bits .xor .u64 (a : Int) (b : Int) = ((a ^^^ b : Nat) : Int) := by
  show IntKind.u64.wrap (((BitVec.ofInt 64 (a : Int) ^^^ BitVec.ofInt 64 (b : Int) : BitVec 64).toNat : Nat) : Int) = _
  have h1 : (BitVec.ofInt 64 (a : Int)).toNat = a := by simp; omega
  have h2 : (BitVec.ofInt 64 (b : Int)).toNat = b := by simp; omega
  rw [BitVec.toNat_xor, h1, h2]
  have h3 : a ^^^ b < 2 ^ 64 := Nat.xor_lt_two_pow ha hb
  exact wrapK (k := .u64) (by simp only [lowK, hiK]; omega)
theorem bits_or8 {a b : Nat} (ha : a < 2 ^ 8) (hb : b < 2 ^ 8) : bits .or .u8 (a : Int) (b : Int) = ((a ||| b : Nat) : Int) := by
  show IntKind.u8.wrap (((BitVec.ofInt 8 (a : Int) ||| BitVec.ofInt 8 (b : Int) : BitVec 8).toNat : Nat) : Int) = _
  have h1 : (BitVec.ofInt 8 (a : Int)).toNat = a := by simp; omega
  have h2 : (BitVec.ofInt 8 (b : Int)).toNat = b := by simp; omega
  rw [BitVec.toNat_or, h1, h2]
  have h3 : a ||| b < 2 ^ 8 := Nat.or_lt_two_pow ha hb
  exact wrapK (k := .u8) (by simp only [lowK, hiK]; omega)
theorem bits_and8 {a b : Nat} (ha : a < 2 ^ 8) (hb : b < 2 ^ 8) : bits .and .u8 (a : Int) (b : Int) = ((a &&& b : Nat) : Int) := by
  show IntKind.u8.wrap (((BitVec.ofInt 8 (a : Int) &&& BitVec.ofInt 8 (b : Int) : BitVec 8).toNat : Nat) : Int) = _
  have h1 : (BitVec.ofInt 8 (a : Int)).toNat = a := by simp; omega
  have h2 : (BitVec.ofInt 8 (b : Int)).toNat = b := by simp; omega
  rw [BitVec.toNat_and, h1, h2]
  have h3 : a &&& b < 2 ^ 8 := Nat.and_lt_two_pow a hb
  exact wrapK (k := .u8) (by simp only [lowK, hiK]; omega)
theorem or128 {a : Nat} (h : a < 256) : a ||| 128 = a % 128 + 128 := by
  have : ∀ x : Fin 256, x.val ||| 128 = x.val % 128 + 128 := by decide +kernel
  exact this ⟨a, h⟩
theorem and1 (a : Nat) : a &&& 1 = a % 2 := Nat.and_one_is_mod a
theorem and127 (a : Nat) : a &&& 127 = a % 128 := Nat.and_two_pow_sub_one_eq_mod a 7
theorem and15 (a : Nat) : a &&& 15 = a % 16 := Nat.and_two_pow_sub_one_eq_mod a 4

/-- a number in groups of seven bits -/
def grB (n : Nat) : List UInt8 := if n < 128 then [UInt8.ofNat n] else UInt8.ofNat (n % 128 + 128) :: grB (n / 128)
theorem grB_small {n : Nat} (h : n < 128) : grB n = [UInt8.ofNat n] := by rw [grB, if_pos h]
theorem grB_big {n : Nat} (h : ¬ n < 128) : grB n = UInt8.ofNat (n % 128 + 128) :: grB (n / 128) := by rw [grB, if_neg h]
theorem grB_len : ∀ (k : Nat) {n : Nat}, n < 128 ^ (k + 1) → (grB n).length ≤ k + 1
  | 0, n, h => by rw [grB_small (by simpa using h)]; simp
  | k + 1, n, h => by
    by_cases h1 : n < 128
    · rw [grB_small h1]; simp
    · rw [grB_big h1]
      have := grB_len k (n := n / 128) (by rw [Nat.pow_succ] at h; omega)
      simp only [List.length_cons]; omega
theorem grB_pos (n : Nat) : 0 < (grB n).length := by rw [grB]; split <;> simp
def shE (n : Int) : Int := if n < 0 then 10 else 0
def shB (n : Int) : List UInt8 := if n < 0 then [] else grB n.toNat
def zz (n : Int) : Nat := if n < 0 then (2 * (-(n + 1)) + 1).toNat else (2 * n).toNat

/-! ### the sum -/
def crcBit (c : Nat) : Nat := if c % 2 = 1 then (c / 2) ^^^ 3988292384 else c / 2
def crcK : Nat → Nat → Nat
  | 0, c => c
  | k + 1, c => crcBit (crcK k c)
def crcByte (c : Nat) (b : UInt8) : Nat := crcK 8 (c ^^^ b.toNat)
def crcL (s : List UInt8) : Nat := s.foldl crcByte 4294967295
def crc (s : List UInt8) : Nat := crcL s ^^^ 4294967295
theorem crcBit_lt {c : Nat} (h : c < 2 ^ 32) : crcBit c < 2 ^ 32 := by
  unfold crcBit
  split
  · exact Nat.xor_lt_two_pow (by omega) (by omega)
  · omega
theorem crcK_lt : ∀ (k : Nat) {c : Nat}, c < 2 ^ 32 → crcK k c < 2 ^ 32
  | 0, c, h => h
  | k + 1, c, h => crcBit_lt (crcK_lt k h)
theorem xorb_lt {c : Nat} (b : UInt8) (h : c < 2 ^ 32) : c ^^^ b.toNat < 2 ^ 32 := Nat.xor_lt_two_pow h (by have := b.toNat_lt; omega)
theorem crcByte_lt {c : Nat} (b : UInt8) (h : c < 2 ^ 32) : crcByte c b < 2 ^ 32 := crcK_lt 8 (xorb_lt b h)
theorem crcF_lt : ∀ (s : List UInt8) {c : Nat}, c < 2 ^ 32 → s.foldl crcByte c < 2 ^ 32
  | [], c, h => h
  | b :: s, c, h => crcF_lt s (crcByte_lt b h)
theorem crcL_lt (s : List UInt8) : crcL s < 2 ^ 32 := crcF_lt s (by omega)
theorem crc_lt (s : List UInt8) : crc s < 2 ^ 32 := Nat.xor_lt_two_pow (crcL_lt s) (by omega)
theorem crcL_snoc (s : List UInt8) (b : UInt8) : crcL (s ++ [b]) = crcByte (crcL s) b := by simp [crcL]
/-- the step can be undone -/
theorem crcBit_inj {a b : Nat} (ha : a < 2 ^ 32) (hb : b < 2 ^ 32) (h : crcBit a = crcBit b) : a = b := by
  have key : ∀ x y : BitVec 32, (if x &&& 1#32 = 1#32 then (x >>> 1) ^^^ 3988292384#32 else x >>> 1) = (if y &&& 1#32 = 1#32 then (y >>> 1) ^^^ 3988292384#32 else y >>> 1) → x = y := by
    intro x y hxy
    have hx : x.toNat < 2 ^ 32 := x.isLt
    have top : ∀ z : BitVec 32, (z >>> 1).getLsbD 31 = false := fun z => by simp
    have topx : ∀ z : BitVec 32, ((z >>> 1) ^^^ 3988292384#32).getLsbD 31 = true := fun z => by rw [BitVec.getLsbD_xor, top]; rfl
    have low : ∀ z : BitVec 32, (z &&& 1#32 = 1#32) ↔ z.getLsbD 0 = true := fun z => by
      constructor
      · intro h; have := congrArg (fun q => q.getLsbD 0) h; simpa using this
      · intro h
        apply BitVec.eq_of_getLsbD_eq
        intro i hi
        by_cases hi0 : i = 0
        · subst hi0; simp [h]
        · simp [hi0]
    have fin : ∀ {u v : BitVec 32}, u >>> 1 = v >>> 1 → u.getLsbD 0 = v.getLsbD 0 → u = v := fun {u v} h1 h2 => by
      apply BitVec.eq_of_getLsbD_eq
      intro i hi
      cases i with
      | zero => exact h2
      | succ i =>
        have := congrArg (fun q => q.getLsbD i) h1
        simp only [BitVec.getLsbD_ushiftRight] at this
        rw [Nat.add_comm] at this
        exact this
    by_cases h1 : x &&& 1#32 = 1#32 <;> by_cases h2 : y &&& 1#32 = 1#32
    · rw [if_pos h1, if_pos h2] at hxy
      refine fin (BitVec.xor_left_inj (3988292384#32) |>.1 hxy) ?_
      rw [(low x).1 h1, (low y).1 h2]
    · rw [if_pos h1, if_neg h2] at hxy
      have := topx x; rw [hxy, top] at this; cases this
    · rw [if_neg h1, if_pos h2] at hxy
      have := topx y; rw [← hxy, top] at this; cases this
    · rw [if_neg h1, if_neg h2] at hxy
      refine fin hxy ?_
      have e1 : x.getLsbD 0 = false := by cases hq : x.getLsbD 0 with | false => rfl | true => exact absurd ((low x).2 hq) h1
      have e2 : y.getLsbD 0 = false := by cases hq : y.getLsbD 0 with | false => rfl | true => exact absurd ((low y).2 hq) h2
      rw [e1, e2]
  have conv : ∀ {c : Nat}, c < 2 ^ 32 → (if BitVec.ofNat 32 c &&& 1#32 = 1#32 then (BitVec.ofNat 32 c >>> 1) ^^^ 3988292384#32 else BitVec.ofNat 32 c >>> 1) = BitVec.ofNat 32 (crcBit c) := by
    intro c hc
    have h0 : (BitVec.ofNat 32 c).toNat = c := by simp; omega
    have hl : (BitVec.ofNat 32 c &&& 1#32 = 1#32) ↔ c % 2 = 1 := by
      constructor
      · intro h
        have := congrArg BitVec.toNat h
        rw [BitVec.toNat_and, h0] at this
        have e : (1#32).toNat = 1 := rfl
        rw [e, and1] at this; exact this
      · intro h
        apply BitVec.eq_of_toNat_eq
        rw [BitVec.toNat_and, h0]
        have e : (1#32).toNat = 1 := rfl
        rw [e, and1]; exact h
    have hs : (BitVec.ofNat 32 c >>> 1) = BitVec.ofNat 32 (c / 2) := by
      apply BitVec.eq_of_toNat_eq
      rw [BitVec.toNat_ushiftRight, h0, BitVec.toNat_ofNat, Nat.shiftRight_eq_div_pow]
      omega
    unfold crcBit
    by_cases h1 : c % 2 = 1
    · rw [if_pos (hl.2 h1), if_pos h1, hs]
      apply BitVec.eq_of_toNat_eq
      rw [BitVec.toNat_xor, BitVec.toNat_ofNat, BitVec.toNat_ofNat, BitVec.toNat_ofNat]
      have h2 : (c / 2) ^^^ 3988292384 < 2 ^ 32 := Nat.xor_lt_two_pow (by omega) (by omega)
      rw [Nat.mod_eq_of_lt (show c / 2 < 2 ^ 32 by omega), Nat.mod_eq_of_lt (show 3988292384 < 2 ^ 32 by omega), Nat.mod_eq_of_lt h2]
    · rw [if_neg (fun h => h1 (hl.1 h)), if_neg h1, hs]
  have := key (BitVec.ofNat 32 a) (BitVec.ofNat 32 b) (by rw [conv ha, conv hb, h])
  have h2 := congrArg BitVec.toNat this
  rw [BitVec.toNat_ofNat, BitVec.toNat_ofNat, Nat.mod_eq_of_lt ha, Nat.mod_eq_of_lt hb] at h2
  exact h2
theorem crcK_inj : ∀ (k : Nat) {a b : Nat}, a < 2 ^ 32 → b < 2 ^ 32 → crcK k a = crcK k b → a = b
  | 0, a, b, _, _, h => h
  | k + 1, a, b, ha, hb, h => crcK_inj k ha hb (crcBit_inj (crcK_lt k ha) (crcK_lt k hb) h)
theorem xor_inj {a b c : Nat} (h : a ^^^ c = b ^^^ c) : a = b := by
  have := congrArg (· ^^^ c) h
  simpa [Nat.xor_assoc] using this
theorem xor_inj2 {a b c : Nat} (h : c ^^^ a = c ^^^ b) : a = b := xor_inj (c := c) (by rw [Nat.xor_comm a, Nat.xor_comm b]; exact h)
theorem crcByte_inj {a b : Nat} {x : UInt8} (ha : a < 2 ^ 32) (hb : b < 2 ^ 32) (h : crcByte a x = crcByte b x) : a = b := xor_inj (crcK_inj 8 (xorb_lt x ha) (xorb_lt x hb) h)
theorem crcByte_inj2 {a : Nat} {x y : UInt8} (ha : a < 2 ^ 32) (h : crcByte a x = crcByte a y) : x = y := by
  have := xor_inj2 (crcK_inj 8 (xorb_lt x ha) (xorb_lt y ha) h)
  exact UInt8.toNat_inj.1 this
theorem crcF_inj : ∀ (s : List UInt8) {a b : Nat}, a < 2 ^ 32 → b < 2 ^ 32 → s.foldl crcByte a = s.foldl crcByte b → a = b
  | [], a, b, _, _, h => h
  | x :: s, a, b, ha, hb, h => crcByte_inj ha hb (crcF_inj s (crcByte_lt x ha) (crcByte_lt x hb) h)
theorem crc_turn (p q : List UInt8) {x y : UInt8} (h : x ≠ y) : crc (p ++ x :: q) ≠ crc (p ++ y :: q) := by
  intro he
  have h1 := xor_inj he
  simp only [crcL, List.foldl_append, List.foldl_cons] at h1
  have hp := crcF_lt p (c := 4294967295) (by omega)
  exact h (crcByte_inj2 hp (crcF_inj q (crcByte_lt x hp) (crcByte_lt y hp) h1))
end Go.Wk.Ytihjpjpellagiaa
