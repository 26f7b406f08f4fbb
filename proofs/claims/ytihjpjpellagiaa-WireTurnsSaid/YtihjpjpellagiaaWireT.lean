/-
  Two texts of one length that differ in one byte have unlike digests: plain.
-/
import Derived.Test.YtihjpjpellagiaaFnv
set_option linter.unusedVariables false
namespace Go.Wk.Ytihjpjpellagiaa
open Go Go.Wk Go.Proofs

def gStep (n : BitVec 64) (c : UInt8) : BitVec 64 := (n ^^^ BitVec.ofNat 64 c.toNat) * 1099511628211#64
theorem gStep_eq (x : BitVec 64) (c : UInt8) : fnvStep (x.toNat : Int) c = ((gStep x c).toNat : Int) := by
  have h1 : bits .xor .u64 (x.toNat : Int) c.toNat = ((x ^^^ BitVec.ofNat 64 c.toNat).toNat : Int) := by
    have ex : BitVec.ofInt 64 (x.toNat : Int) = x := by
      apply BitVec.eq_of_toNat_eq
      simp
    have ec : BitVec.ofInt 64 ((c.toNat : Nat) : Int) = BitVec.ofNat 64 c.toNat := by
      apply BitVec.eq_of_toNat_eq
      simp
    show IntKind.u64.wrap ((BitVec.ofInt 64 (x.toNat : Int) ^^^ BitVec.ofInt 64 ((c.toNat : Nat) : Int)).toNat : Int) = _
    rw [ex, ec]
    have hlt := (x ^^^ BitVec.ofNat 64 c.toNat).isLt
    show (((x ^^^ BitVec.ofNat 64 c.toNat).toNat : Int)) % (2 ^ 64 : Int) = _
    omega
  unfold fnvStep
  rw [h1]
  show (((x ^^^ BitVec.ofNat 64 c.toNat).toNat : Int) * 1099511628211) % (2 ^ 64 : Int) = _
  unfold gStep
  rw [BitVec.toNat_mul]
  generalize (x ^^^ BitVec.ofNat 64 c.toNat).toNat = m
  show _ = (((m * (1099511628211#64).toNat) % 2 ^ 64 : Nat) : Int)
  have : (1099511628211#64).toNat = 1099511628211 := by decide
  rw [this]
  omega
theorem gStep_inj {x y : BitVec 64} {c : UInt8} (h : gStep x c = gStep y c) : x = y := by
  unfold gStep at h
  have h1 : ∀ z : BitVec 64, z * 1099511628211#64 * 14886173955864302971#64 = z := fun z => by
    rw [BitVec.mul_assoc, show (1099511628211#64 * 14886173955864302971#64 : BitVec 64) = 1#64 by decide, BitVec.mul_one]
  have h2 := congrArg (· * 14886173955864302971#64) h
  simp only [h1] at h2
  exact (BitVec.xor_left_inj (BitVec.ofNat 64 c.toNat)).1 h2
theorem gStep_inj2 {x : BitVec 64} {c e : UInt8} (h : gStep x c = gStep x e) : c = e := by
  unfold gStep at h
  have h1 : ∀ z : BitVec 64, z * 1099511628211#64 * 14886173955864302971#64 = z := fun z => by
    rw [BitVec.mul_assoc, show (1099511628211#64 * 14886173955864302971#64 : BitVec 64) = 1#64 by decide, BitVec.mul_one]
  have h2 := congrArg (· * 14886173955864302971#64) h
  simp only [h1] at h2
  have h3 := (BitVec.xor_right_inj x).1 h2
  have h4 := congrArg BitVec.toNat h3
  simp only [BitVec.toNat_ofNat] at h4
  have := c.toNat_lt; have := e.toNat_lt
  apply UInt8.toNat_inj.1
  omega
theorem gL_inj : ∀ (l : List UInt8) {x y : BitVec 64}, l.foldl gStep x = l.foldl gStep y → x = y
  | [], x, y, h => h
  | c :: r, x, y, h => gStep_inj (gL_inj r h)
theorem fnvL_g : ∀ (l : List UInt8) (x : BitVec 64), l.foldl fnvStep (x.toNat : Int) = ((l.foldl gStep x).toNat : Int)
  | [], x => rfl
  | c :: r, x => by
    rw [List.foldl_cons, gStep_eq, fnvL_g r, List.foldl_cons]
theorem fnvL_eq (l : List UInt8) : fnvL l = ((l.foldl gStep 14695981039346656037#64).toNat : Int) := fnvL_g l 14695981039346656037#64
theorem fnvL_lt (l : List UInt8) : 0 ≤ fnvL l ∧ fnvL l < 18446744073709551616 := by
  rw [fnvL_eq]
  have := (l.foldl gStep 14695981039346656037#64).isLt
  omega
/-- a byte else, another digest -/
theorem fnvL_turn {s : List UInt8} {k : Nat} {b : UInt8} (hk : k < s.length) (hb : s.getD k 0 ≠ b) : fnvL s ≠ fnvL (s.take k ++ [b] ++ s.drop (k + 1)) := by
  intro h
  rw [fnvL_eq, fnvL_eq] at h
  have h2 : s = s.take k ++ [s.getD k 0] ++ s.drop (k + 1) := by
    rw [← take_snoc hk, List.take_append_drop]
  have h3 : ((s.take k ++ [s.getD k 0]) ++ s.drop (k + 1)).foldl gStep 14695981039346656037#64 = ((s.take k ++ [b]) ++ s.drop (k + 1)).foldl gStep 14695981039346656037#64 := by
    rw [← h2]
    apply BitVec.eq_of_toNat_eq
    omega
  simp only [List.foldl_append] at h3
  have h4 := gL_inj _ h3
  exact hb (gStep_inj2 h4)
end Go.Wk.Ytihjpjpellagiaa
