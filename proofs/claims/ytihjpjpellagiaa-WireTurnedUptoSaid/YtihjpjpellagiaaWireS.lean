/-
  Plain facts on bytes and numbers: what is read is what was written.
-/
import Derived.Test.YtihjpjpellagiaaWireB
set_option linter.unusedVariables false
namespace Go.Wk.Ytihjpjpellagiaa
open Go Go.Wk

/-- a number's value, the least byte first -/
def leN : List UInt8 → Nat
  | [] => 0
  | b :: r => b.toNat + 256 * leN r
theorem leN_lt : ∀ (l : List UInt8), leN l < 256 ^ l.length
  | [] => by simp [leN]
  | b :: r => by
    have := leN_lt r
    have hb := b.toNat_lt
    simp only [leN, List.length_cons, Nat.pow_succ]
    omega
theorem leN_append : ∀ (l r : List UInt8), leN (l ++ r) = leN l + 256 ^ l.length * leN r
  | [], r => by simp [leN]
  | b :: l, r => by
    simp only [List.cons_append, leN, List.length_cons, Nat.pow_succ, leN_append l r, Nat.mul_add]
    rw [Nat.mul_comm (256 ^ l.length) 256, Nat.mul_assoc]
    omega
theorem leN_snoc (l : List UInt8) (b : UInt8) : leN (l ++ [b]) = leN l + 256 ^ l.length * b.toNat := by
  rw [leN_append]; simp [leN]

/-- the bytes from i on, k of them -/
def cut (s : List UInt8) (i k : Nat) : List UInt8 := (s.drop i).take k
theorem cut_len {s : List UInt8} {i k : Nat} (h : i + k ≤ s.length) : (cut s i k).length = k := by simp [cut]; omega
theorem cut_snoc {s : List UInt8} {i k : Nat} (h : i + k < s.length) : cut s i (k + 1) = cut s i k ++ [s.getD (i + k) 0] := by
  unfold cut
  rw [List.take_succ_eq_append_getElem (by simp; omega)]
  congr 1
  simp [List.getElem_drop, h]
theorem take_drop_cut (s : List UInt8) (i j : Nat) : (s.take j).drop i = cut s i (j - i) := by
  unfold cut; rw [List.drop_take]

theorem bits_or_nat {a b : Nat} (ha : a < 2 ^ 64) (hb : b < 2 ^ 64) : bits .or .u64 (a : Int) (b : Int) = ((a ||| b : Nat) : Int) := by
  show IntKind.u64.wrap (((BitVec.ofInt 64 (a : Int) ||| BitVec.ofInt 64 (b : Int) : BitVec 64).toNat : Nat) : Int) = _
  have h1 : (BitVec.ofInt 64 (a : Int)).toNat = a := by simp; omega
  have h2 : (BitVec.ofInt 64 (b : Int)).toNat = b := by simp; omega
  rw [BitVec.toNat_or, h1, h2]
  have h3 : a ||| b < 2 ^ 64 := Nat.or_lt_two_pow ha hb
  exact wrapK (k := .u64) (by simp only [lowK, hiK]; omega)
theorem or_step {a b k : Nat} (ha : a < 256 ^ k) (hb : b < 256) (hk : k < 8) : bits .or .u64 (a : Int) (IntKind.u64.wrap ((b : Int) * 2 ^ (8 * (k : Int)).toNat)) = ((a + 256 ^ k * b : Nat) : Int) := by
  have e1 : (2 : Nat) ^ (8 * k) = 256 ^ k := by rw [Nat.pow_mul]
  have e2 : (8 * (k : Int)).toNat = 8 * k := by omega
  have h8 : 256 ^ k ≤ 256 ^ 7 := Nat.pow_le_pow_right (by omega) (by omega)
  have hbk : b * 2 ^ (8 * k) < 2 ^ 64 := by
    rw [e1]
    have : b * 256 ^ k ≤ 255 * 256 ^ 7 := Nat.mul_le_mul (by omega) h8
    omega
  have e3 : ((b : Int) * 2 ^ (8 * (k : Int)).toNat) = ((b * 2 ^ (8 * k) : Nat) : Int) := by rw [e2]; simp
  rw [e3]
  have e4 : IntKind.u64.wrap ((b * 2 ^ (8 * k) : Nat) : Int) = ((b * 2 ^ (8 * k) : Nat) : Int) := wrapK (k := .u64) (by simp only [lowK, hiK]; omega)
  rw [e4, bits_or_nat (by omega) hbk]
  congr 1
  rw [Nat.or_comm, ← Nat.shiftLeft_eq, ← Nat.shiftLeft_add_eq_or_of_lt (by rw [e1]; exact ha), Nat.shiftLeft_eq, e1]
  rw [Nat.mul_comm]; omega

/-- what reading a number answers: what went wrong, the number, the new place -/
def rnE (s : List UInt8) (i : Nat) (bytes : Int) : Int :=
  if bytes = 1 ∨ bytes = 2 ∨ bytes = 4 ∨ bytes = 8 then (if (s.length : Int) - i < bytes then 11 else if 9223372036854775807 < leN (cut s i bytes.toNat) then 10 else 0) else 1
def rnV (s : List UInt8) (i : Nat) (bytes : Int) : Int := if rnE s i bytes = 0 then (leN (cut s i bytes.toNat) : Int) else 0
def rnA (s : List UInt8) (i : Nat) (bytes : Int) : Nat := if rnE s i bytes = 0 then i + bytes.toNat else i
/-- the same of raw bytes -/
def rrE (s : List UInt8) (i : Nat) (n : Int) : Int := if n < 0 then 1 else if (s.length : Int) - i < n then 11 else 0
def rrV (s : List UInt8) (i : Nat) (n : Int) : List UInt8 := if rrE s i n = 0 then cut s i n.toNat else []
def rrA (s : List UInt8) (i : Nat) (n : Int) : Nat := if rrE s i n = 0 then i + n.toNat else i
/-- the same of a text -/
def rtE (s : List UInt8) (i : Nat) (most : Int) : Int :=
  if most < 0 then 1 else if rnE s i 4 ≠ 0 then rnE s i 4 else if most < rnV s i 4 then 12 else rrE s (rnA s i 4) (rnV s i 4)
def rtV (s : List UInt8) (i : Nat) (most : Int) : List UInt8 := if rtE s i most = 0 then rrV s (rnA s i 4) (rnV s i 4) else []
def rtA (s : List UInt8) (i : Nat) (most : Int) : Nat := if rtE s i most = 0 then rrA s (rnA s i 4) (rnV s i 4) else i
theorem rnA_le {s : List UInt8} {i : Nat} {bytes : Int} (h : i ≤ s.length) : rnA s i bytes ≤ s.length := by
  unfold rnA rnE
  by_cases h1 : bytes = 1 ∨ bytes = 2 ∨ bytes = 4 ∨ bytes = 8
  · rw [if_pos h1]
    by_cases h2 : (s.length : Int) - i < bytes
    · rw [if_pos h2]; simpa using h
    · rw [if_neg h2]
      split <;> simp <;> omega
  · rw [if_neg h1]; simpa using h
theorem rrA_le {s : List UInt8} {i : Nat} {n : Int} (h : i ≤ s.length) : rrA s i n ≤ s.length := by
  unfold rrA rrE
  by_cases h1 : n < 0
  · rw [if_pos h1]; simpa using h
  · rw [if_neg h1]
    by_cases h2 : (s.length : Int) - i < n
    · rw [if_pos h2]; simpa using h
    · rw [if_neg h2]; simp; omega
theorem rtA_le {s : List UInt8} {i : Nat} {n : Int} (h : i ≤ s.length) : rtA s i n ≤ s.length := by
  unfold rtA
  split
  · exact rrA_le (rnA_le h)
  · exact h
end Go.Wk.Ytihjpjpellagiaa
