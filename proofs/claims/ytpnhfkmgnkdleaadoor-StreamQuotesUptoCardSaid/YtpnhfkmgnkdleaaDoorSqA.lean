/-
  The walks of chapter 14: the unquoter's steps; a byte's place in a text.
-/
import Derived.Test.YtpnhfkmgnkdleaaDoorStB
import Derived.Test.YtpnhfkmgnkdleaaDoorStD
import Derived.Test.YtpnhfkmgnkdleaaDoorCopy
import Derived.Lib.Bytealg
import Derived.Test.YtpnhfkmgnkdleaaDoorBits
set_option linter.unusedVariables false
namespace Go.Wk.YtpnhfkmgnkdleaaDoor
open Go Go.Wk Go.Proofs

theorem wIdx0 (s : List UInt8) (c : UInt8) (w : World) : CallsF Tryd.prog 88 [.string (sOf s), bv c] w fun r w' => r = .int .i64 (Lib.indexByte s c) ∧ w' = w := by
  have hr := Lib.run_indexByteString (P := Tryd.prog) (sOf s) c.toNat w
  have hc : ((c.toNat : Int).toNat).toUInt8 = c := by simp
  rw [hc] at hr
  refine callsF Tryd.func88 rfl rfl (by decide) rfl ?_
  refine sA [] rfl ?_
  refine ev_ext rfl rfl rfl Tryd.func101 (by kernel_rfl) (by kernel_rfl) (by kernel_rfl) (by kernel_rfl) hr ?_
  refine sA [] rfl ?_
  exact ret1 (.inr rfl) rfl rfl ⟨rfl, rfl⟩
theorem wIdx (s : List UInt8) (c : UInt8) (w : World) : CallsF Tryd.prog 66 [.string (sOf s), bv c] w fun r w' => r = .int .i64 (Lib.indexByte s c) ∧ w' = w := by
  refine callsF Tryd.func66 rfl rfl (by decide) rfl ?_
  refine sA [] rfl ?_
  refine ev_call rfl rfl rfl (wIdx0 s c _) (fun r w1 hr => ?_)
  obtain ⟨rfl, rfl⟩ := hr
  refine sA [] rfl ?_
  exact ret1 (.inr rfl) rfl rfl ⟨rfl, rfl⟩

/-- an unquoter: its text, its place, what it has read -/
abbrev Uq (w : World) (p : Nat) (t : List UInt8) (q : Nat) (v : Value) : Prop := Blk w p [.string (sOf t), .int .i64 q, v] 102
theorem uqNext (p : Nat) (t : List UInt8) (q : Nat) (v : Value) (w : World) (h : Uq w p t q v) (hq : q ≤ t.length) (ht : t.length ≤ 9223372036854775800) :
    CallsF Tryd.prog 84 [.pointer (some ⟨p, 0, none⟩)] w fun r w' => r = .tuple #[bv (t.getD q 0), .bool (decide (q < t.length))] ∧ Fr no w w' := by
  refine callsF Tryd.func84 rfl rfl (by decide) rfl ?_
  refine sA [] rfl ?_
  refine ev_draw mixed (by kernel_rfl) ?_
  refine qA rfl ?_; refine q_loadB rfl rfl tabOk rfl rfl ‹_› (by rfl) ?_; refine qA rfl ?_; refine q_loadB rfl rfl tabOk rfl rfl ‹_› (by rfl) ?_; refine qA rfl ?_
  refine q_end fun w1 hf1 => ?_
  have h1 := h.fr0 hf1
  refine ev_condD rfl (fun he => ?_) (fun he => ?_)
  · have he : q = t.length := by omega
    have hg : t.getD q 0 = 0 := by rw [List.getD_eq_getElem?_getD, List.getElem?_eq_none (by omega)]; rfl
    refine sA [] rfl ?_
    exact ret2 (.inr rfl) rfl rfl rfl ⟨by rw [hg, decide_eq_false (by omega)]; rfl, hf1⟩
  · clear h
    refine sA [] rfl ?_
    refine ev_draw mixed (by kernel_rfl) ?_
    refine qA rfl ?_; refine q_loadB rfl rfl tabOk rfl rfl ‹_› (by rfl) ?_; refine qA rfl ?_; refine q_loadB rfl rfl tabOk rfl rfl ‹_› (by rfl) ?_; refine q_index rfl rfl tabOk rfl rfl rfl (by omega) (by omega) ?_; refine qA rfl ?_
    refine q_end fun w2 hf2 => ?_
    refine sA [] rfl ?_
    exact ret2 (.inr rfl) rfl rfl rfl ⟨by rw [decide_eq_true (show q < t.length by omega)]; rfl, hf1.tr hf2⟩
theorem uqIs (p : Nat) (t : List UInt8) (q : Nat) (v : Value) (c : UInt8) (w : World) (h : Uq w p t q v) (hq : q ≤ t.length) (ht : t.length ≤ 9223372036854775800) :
    CallsF Tryd.prog 83 [.pointer (some ⟨p, 0, none⟩), bv c] w fun r w' => r = .bool (decide (q < t.length ∧ t.getD q 0 = c)) ∧ Uq w' p t (if q < t.length ∧ t.getD q 0 = c then q + 1 else q) v ∧ Fr (fun b => b = p) w w' := by
  refine callsF Tryd.func83 rfl rfl (by decide) rfl ?_
  refine sA [] rfl ?_
  refine ev_call rfl rfl rfl (uqNext p t q v _ h hq ht) (fun r w1 hr => ?_)
  obtain ⟨rfl, hf1⟩ := hr
  have h1 := h.fr0 hf1
  clear h
  have hfp : Fr (fun b => b = p) w w1 := hf1.mono fun _ _ z => z.elim
  by_cases hlt : q < t.length
  · rw [decide_eq_true hlt]
    refine sC [] rfl ?_; refine sC [] rfl ?_; refine sC [] rfl ?_; refine sC [] rfl ?_
    refine ev_condD rfl (fun hc => ?_) (fun hc => ?_)
    · have hn : ¬ t.getD q 0 = c := fun e => hc (by rw [e])
      refine sA [] rfl ?_
      exact ret1 (.inr rfl) rfl rfl ⟨by rw [decide_eq_false fun h => hn h.2], by rw [if_neg fun h => hn h.2]; exact h1, hfp⟩
    · have hn : t.getD q 0 = c := by
        have := Decidable.not_not.1 hc
        exact UInt8.toNat_inj.1 (by omega)
      refine sA [] rfl ?_; refine ev_loadB rfl rfl tabOk rfl rfl ‹_› (by rfl) ?_; refine ev_arith rfl rfl rfl rfl rfl (by simp only [lowK, hiK]; omega) ?_; refine sA [] rfl ?_
      refine ev_store tabOk rfl rfl rfl rfl rfl rfl h1 rfl (fun w2 h2 hf2 => ?_)
      clear h1
      refine sA [] rfl ?_
      exact ret1 (.inr rfl) rfl rfl ⟨by rw [decide_eq_true ⟨hlt, hn⟩], by rw [if_pos ⟨hlt, hn⟩]; exact h2, hfp.trans hf2 fun _ _ e => e⟩
  · rw [decide_eq_false hlt]
    refine sA [] rfl ?_
    exact ret1 (.inr rfl) rfl rfl ⟨by rw [decide_eq_false fun h => hlt h.1], by rw [if_neg fun h => hlt h.1]; exact h1, hfp⟩

/-- what a digit to the base 16 says; -1: it is none -/
def hx (c : UInt8) : Int := if 48 ≤ c.toNat ∧ c.toNat ≤ 57 then (c.toNat : Int) - 48 else if 97 ≤ c.toNat ∧ c.toNat ≤ 102 then (c.toNat : Int) - 87 else if 65 ≤ c.toNat ∧ c.toNat ≤ 70 then (c.toNat : Int) - 55 else -1
theorem hx_le (c : UInt8) : -1 ≤ hx c ∧ hx c ≤ 15 := by unfold hx; split; omega; split; omega; split <;> omega
theorem refHex (c : UInt8) (w : World) : CallsF Tryd.prog 87 [bv c] w fun r w' => r = .int .i64 (hx c) ∧ w' = w := by
  have hc := c.toNat_lt
  refine callsF Tryd.func87 rfl rfl (by decide) rfl ?_
  refine sC [] rfl ?_; refine sC [] rfl ?_; refine sD [] rfl ?_; refine sD [] rfl ?_
  by_cases a1 : 48 ≤ c.toNat
  · rw [show decide ((48 : Int) ≤ (c.toNat : Int)) = true from decide_eq_true (by omega)]
    refine sC [] rfl ?_
    refine ev_condD rfl (fun b1 => ?_) (fun b1 => ?_)
    · refine sA [] rfl ?_; refine ev_arith rfl rfl rfl rfl rfl (by simp only [lowK, hiK]; omega) ?_; refine ev_conv rfl rfl tabOk rfl rfl rfl (by simp only [lowK, hiK]; omega) ?_; refine sA [] rfl ?_
      exact ret1 (.inr rfl) rfl rfl ⟨by unfold hx; rw [if_pos (by omega)] <;> (congr 1; omega), rfl⟩
    · refine sC [] rfl ?_; refine sD [] rfl ?_; refine sD [] rfl ?_; refine sD [] rfl ?_
      by_cases a2 : 97 ≤ c.toNat
      · rw [show decide ((97 : Int) ≤ (c.toNat : Int)) = true from decide_eq_true (by omega)]
        refine sC [] rfl ?_
        refine ev_condD rfl (fun b2 => ?_) (fun b2 => ?_)
        · refine sA [] rfl ?_; refine ev_arith rfl rfl rfl rfl rfl (by simp only [lowK, hiK]; omega) ?_; refine ev_conv rfl rfl tabOk rfl rfl rfl (by simp only [lowK, hiK]; omega) ?_; refine ev_arith rfl rfl rfl rfl rfl (by simp only [lowK, hiK]; omega) ?_; refine sA [] rfl ?_
          exact ret1 (.inr rfl) rfl rfl ⟨by unfold hx; rw [if_neg (by omega), if_pos (by omega)] <;> (congr 1; omega), rfl⟩
        · refine sC [] rfl ?_; refine sD [] rfl ?_; refine sD [] rfl ?_; refine sD [] rfl ?_
          by_cases a4 : 65 ≤ c.toNat
          · rw [show decide ((65 : Int) ≤ (c.toNat : Int)) = true from decide_eq_true (by omega)]
            refine sC [] rfl ?_
            refine ev_condD rfl (fun b4 => ?_) (fun b4 => ?_)
            · refine sA [] rfl ?_; refine ev_arith rfl rfl rfl rfl rfl (by simp only [lowK, hiK]; omega) ?_; refine ev_conv rfl rfl tabOk rfl rfl rfl (by simp only [lowK, hiK]; omega) ?_; refine ev_arith rfl rfl rfl rfl rfl (by simp only [lowK, hiK]; omega) ?_; refine sA [] rfl ?_
              exact ret1 (.inr rfl) rfl rfl ⟨by unfold hx; rw [if_neg (by omega), if_neg (by omega), if_pos (by omega)] <;> (congr 1; omega), rfl⟩
            · refine sA [] rfl ?_
              exact ret1 (.inr rfl) rfl rfl ⟨by unfold hx; rw [if_neg (by omega), if_neg (by omega), if_neg (by omega)], rfl⟩
          · rw [show decide ((65 : Int) ≤ (c.toNat : Int)) = false from decide_eq_false (by omega)]
            refine sA [] rfl ?_
            exact ret1 (.inr rfl) rfl rfl ⟨by unfold hx; rw [if_neg (by omega), if_neg (by omega), if_neg (by omega)], rfl⟩
      · rw [show decide ((97 : Int) ≤ (c.toNat : Int)) = false from decide_eq_false (by omega)]
        refine sC [] rfl ?_; refine sC [] rfl ?_; refine sC [] rfl ?_
        by_cases a5 : 65 ≤ c.toNat
        · rw [show decide ((65 : Int) ≤ (c.toNat : Int)) = true from decide_eq_true (by omega)]
          refine sC [] rfl ?_
          refine ev_condD rfl (fun b5 => ?_) (fun b5 => ?_)
          · refine sA [] rfl ?_; refine ev_arith rfl rfl rfl rfl rfl (by simp only [lowK, hiK]; omega) ?_; refine ev_conv rfl rfl tabOk rfl rfl rfl (by simp only [lowK, hiK]; omega) ?_; refine ev_arith rfl rfl rfl rfl rfl (by simp only [lowK, hiK]; omega) ?_; refine sA [] rfl ?_
            exact ret1 (.inr rfl) rfl rfl ⟨by unfold hx; rw [if_neg (by omega), if_neg (by omega), if_pos (by omega)] <;> (congr 1; omega), rfl⟩
          · refine sA [] rfl ?_
            exact ret1 (.inr rfl) rfl rfl ⟨by unfold hx; rw [if_neg (by omega), if_neg (by omega), if_neg (by omega)], rfl⟩
        · rw [show decide ((65 : Int) ≤ (c.toNat : Int)) = false from decide_eq_false (by omega)]
          refine sA [] rfl ?_
          exact ret1 (.inr rfl) rfl rfl ⟨by unfold hx; rw [if_neg (by omega), if_neg (by omega), if_neg (by omega)], rfl⟩
  · rw [show decide ((48 : Int) ≤ (c.toNat : Int)) = false from decide_eq_false (by omega)]
    refine sC [] rfl ?_; refine sC [] rfl ?_; refine sC [] rfl ?_
    by_cases a3 : 97 ≤ c.toNat
    · rw [show decide ((97 : Int) ≤ (c.toNat : Int)) = true from decide_eq_true (by omega)]
      refine sC [] rfl ?_
      refine ev_condD rfl (fun b3 => ?_) (fun b3 => ?_)
      · refine sA [] rfl ?_; refine ev_arith rfl rfl rfl rfl rfl (by simp only [lowK, hiK]; omega) ?_; refine ev_conv rfl rfl tabOk rfl rfl rfl (by simp only [lowK, hiK]; omega) ?_; refine ev_arith rfl rfl rfl rfl rfl (by simp only [lowK, hiK]; omega) ?_; refine sA [] rfl ?_
        exact ret1 (.inr rfl) rfl rfl ⟨by unfold hx; rw [if_neg (by omega), if_pos (by omega)] <;> (congr 1; omega), rfl⟩
      · refine sC [] rfl ?_; refine sD [] rfl ?_; refine sD [] rfl ?_; refine sD [] rfl ?_
        by_cases a6 : 65 ≤ c.toNat
        · rw [show decide ((65 : Int) ≤ (c.toNat : Int)) = true from decide_eq_true (by omega)]
          refine sC [] rfl ?_
          refine ev_condD rfl (fun b6 => ?_) (fun b6 => ?_)
          · refine sA [] rfl ?_; refine ev_arith rfl rfl rfl rfl rfl (by simp only [lowK, hiK]; omega) ?_; refine ev_conv rfl rfl tabOk rfl rfl rfl (by simp only [lowK, hiK]; omega) ?_; refine ev_arith rfl rfl rfl rfl rfl (by simp only [lowK, hiK]; omega) ?_; refine sA [] rfl ?_
            exact ret1 (.inr rfl) rfl rfl ⟨by unfold hx; rw [if_neg (by omega), if_neg (by omega), if_pos (by omega)] <;> (congr 1; omega), rfl⟩
          · refine sA [] rfl ?_
            exact ret1 (.inr rfl) rfl rfl ⟨by unfold hx; rw [if_neg (by omega), if_neg (by omega), if_neg (by omega)], rfl⟩
        · rw [show decide ((65 : Int) ≤ (c.toNat : Int)) = false from decide_eq_false (by omega)]
          refine sA [] rfl ?_
          exact ret1 (.inr rfl) rfl rfl ⟨by unfold hx; rw [if_neg (by omega), if_neg (by omega), if_neg (by omega)], rfl⟩
    · rw [show decide ((97 : Int) ≤ (c.toNat : Int)) = false from decide_eq_false (by omega)]
      refine sC [] rfl ?_; refine sC [] rfl ?_; refine sC [] rfl ?_
      by_cases a7 : 65 ≤ c.toNat
      · rw [show decide ((65 : Int) ≤ (c.toNat : Int)) = true from decide_eq_true (by omega)]
        refine sC [] rfl ?_
        refine ev_condD rfl (fun b7 => ?_) (fun b7 => ?_)
        · refine sA [] rfl ?_; refine ev_arith rfl rfl rfl rfl rfl (by simp only [lowK, hiK]; omega) ?_; refine ev_conv rfl rfl tabOk rfl rfl rfl (by simp only [lowK, hiK]; omega) ?_; refine ev_arith rfl rfl rfl rfl rfl (by simp only [lowK, hiK]; omega) ?_; refine sA [] rfl ?_
          exact ret1 (.inr rfl) rfl rfl ⟨by unfold hx; rw [if_neg (by omega), if_neg (by omega), if_pos (by omega)] <;> (congr 1; omega), rfl⟩
        · refine sA [] rfl ?_
          exact ret1 (.inr rfl) rfl rfl ⟨by unfold hx; rw [if_neg (by omega), if_neg (by omega), if_neg (by omega)], rfl⟩
      · rw [show decide ((65 : Int) ≤ (c.toNat : Int)) = false from decide_eq_false (by omega)]
        refine sA [] rfl ?_
        exact ret1 (.inr rfl) rfl rfl ⟨by unfold hx; rw [if_neg (by omega), if_neg (by omega), if_neg (by omega)], rfl⟩

/-- a digit as the program reads it -/
def pd (c : UInt8) : Int := if 48 ≤ c.toNat ∧ c.toNat ≤ 57 then (c.toNat : Int) - 48 else Lib.indexByte [48, 49, 50, 51, 52, 53, 54, 55, 56, 57, 97, 98, 99, 100, 101, 102] (c ||| 32)
theorem pd_all : ∀ n : Fin 256, (((pd (UInt8.ofNat n.val) < 0 ∨ n.val < 48 ∨ (57 < n.val ∧ n.val < 65)) ↔ hx (UInt8.ofNat n.val) < 0) ∧ (¬ (pd (UInt8.ofNat n.val) < 0 ∨ n.val < 48 ∨ (57 < n.val ∧ n.val < 65)) → pd (UInt8.ofNat n.val) = hx (UInt8.ofNat n.val))) ∧ -1 ≤ pd (UInt8.ofNat n.val) ∧ pd (UInt8.ofNat n.val) ≤ 15 := by decide +kernel
theorem pd_hx (c : UInt8) : (((pd c < 0 ∨ c.toNat < 48 ∨ (57 < c.toNat ∧ c.toNat < 65)) ↔ hx c < 0) ∧ (¬ (pd c < 0 ∨ c.toNat < 48 ∨ (57 < c.toNat ∧ c.toNat < 65)) → pd c = hx c)) ∧ -1 ≤ pd c ∧ pd c ≤ 15 := by
  have h := pd_all ⟨c.toNat, c.toNat_lt⟩
  simpa using h
/-- what is wrong with digit k of four, after n -/
def fBad (t : List UInt8) (low : Bool) (k : Nat) (n : Int) (q : Nat) : Prop := ¬ q < t.length ∨ hx (t.getD q 0) < 0 ∨ (k = 0 ∧ low = true ∧ hx (t.getD q 0) ≠ 13) ∨ (k = 1 ∧ decide (n = 13 ∧ 12 ≤ hx (t.getD q 0)) ≠ low)
instance (t : List UInt8) (low : Bool) (k : Nat) (n : Int) (q : Nat) : Decidable (fBad t low k n q) := by unfold fBad; infer_instance
/-- four digits: all right?, their number, the place -/
def fourF (t : List UInt8) (low : Bool) : Nat → Nat → Int → Nat → Bool × Int × Nat
  | 0, _, n, q => (true, n, q)
  | f + 1, k, n, q => if fBad t low k n q then (false, 0, q) else fourF t low f (k + 1) (16 * n + hx (t.getD q 0)) (q + 1)
theorem fourF_bad {t : List UInt8} {low : Bool} {f k : Nat} {n : Int} {q : Nat} (h : fBad t low k n q) : fourF t low (f + 1) k n q = (false, 0, q) := if_pos h
theorem fourF_go {t : List UInt8} {low : Bool} {f k : Nat} {n : Int} {q : Nat} (h : ¬ fBad t low k n q) : fourF t low (f + 1) k n q = fourF t low f (k + 1) (16 * n + hx (t.getD q 0)) (q + 1) := if_neg h
abbrev four (t : List UInt8) (low : Bool) (q : Nat) : Bool × Int × Nat := fourF t low 4 0 0 q
end Go.Wk.YtpnhfkmgnkdleaaDoor
namespace Go.Wk.YtpnhfkmgnkdleaaDoor
open Go Go.Wk Go.Proofs

def bn : Nat → Int
  | 0 => 0
  | 1 => 15
  | 2 => 255
  | 3 => 4095
  | _ => 65535

set_option maxHeartbeats 2000000 in
theorem refFour (t : List UInt8) (low : Bool) (q : Nat) (w : World) (ht : t.length ≤ 9223372036854775000) (hq : q ≤ t.length) :
    CallsF Tryd.prog 64 [.string (sOf t), .int .i64 q, .bool low] w fun r w' => r = .tuple #[.int .i64 (four t low q).2.1, .int .i64 (if (four t low q).1 = true then -1 else (four t low q).2.2)] ∧ w' = w := by
  have bad : ∀ {k : Nat} {n : Int}, four t low q = fourF t low (3 - k + 1) k n (q + k) → fBad t low k n (q + k) → four t low q = (false, 0, q + k) := fun h hb => h.trans (fourF_bad hb)
  have go : ∀ {k : Nat} {n : Int}, k < 4 → four t low q = fourF t low (3 - k + 1) k n (q + k) → ¬ fBad t low k n (q + k) → four t low q = fourF t low (4 - (k + 1)) (k + 1) (16 * n + hx (t.getD (q + k) 0)) (q + (k + 1)) := fun {k} {n} hk h hb => by
    rw [show 4 - (k + 1) = 3 - k by omega]; exact h.trans (fourF_go hb)
  refine callsF Tryd.func64 rfl rfl (by decide) rfl ?_
  refine sA [] rfl ?_
  refine ev_loop (α := Nat × Int) (fun y => [(0, .string (sOf t)), (1, .int .i64 q), (2, .bool low), (8, .int .i64 y.2), (9, .int .i64 y.1)])
    (fun y w' => y.1 ≤ 4 ∧ q + y.1 ≤ t.length ∧ four t low q = fourF t low (4 - y.1) y.1 y.2 (q + y.1) ∧ 0 ≤ y.2 ∧ y.2 ≤ bn y.1 ∧ (low = true → y.1 = 1 → y.2 = 13) ∧ w' = w) (fun y => 4 - y.1) (0, 0) ⟨rfl, rfl, rfl, rfl, rfl, trivial⟩ ⟨Nat.zero_le _, hq, rfl, by decide, by decide, fun _ h => (by cases h), rfl⟩ ?_
  rintro ⟨k, n⟩ w' ⟨hk, hqk, hF, hn0, hn1, hl, rfl⟩
  simp only at hk hqk hF hn0 hn1 hl
  refine sC [] rfl ?_; refine sD [] rfl ?_; refine sD [] rfl ?_
  refine ev_condD rfl (fun h4 => ?_) (fun h4 => ?_)
  · have h4 : k < 4 := by have : (k : Int) < 4 := h4; omega
    rw [show 4 - k = 3 - k + 1 by omega] at hF
    refine sA [] rfl ?_; refine ev_arith rfl rfl rfl rfl rfl (by simp only [lowK, hiK]; omega) ?_; refine sC [] rfl ?_; refine sC [] rfl ?_; refine sD [] rfl ?_; refine sD [] rfl ?_
    refine ev_condD rfl (fun he => ?_) (fun he => ?_)
    · have hb := bad hF (show fBad t low k n (q + k) from .inl (by omega))
      refine sA [] rfl ?_
      exact ret2 (.inr rfl) rfl rfl rfl ⟨by rw [hb, show t.length = q + k by omega]; rfl, rfl⟩
    · have hlt : q + k < t.length := by omega
      refine sA [] rfl ?_; refine ev_index rfl rfl tabOk rfl rfl rfl (by omega) (by omega) ?_
      rw [show ((q : Int) + k).toNat = q + k by omega]
      refine ev_call rfl rfl rfl (refHex (t.getD (q + k) 0) _) (fun r w1 hr => ?_)
      obtain ⟨rfl, rfl⟩ := hr
      have hd := hx_le (t.getD (q + k) 0)
      obtain ⟨d, hdd⟩ : ∃ d, d = hx (t.getD (q + k) 0) := ⟨_, rfl⟩
      have go' := go h4 hF
      have bad' := bad hF
      rw [← hdd] at hd go' ⊢
      have hfb : fBad t low k n (q + k) ↔ (d < 0 ∨ (k = 0 ∧ low = true ∧ d ≠ 13) ∨ (k = 1 ∧ decide (n = 13 ∧ 12 ≤ d) ≠ low)) := by
        unfold fBad; rw [← hdd]; exact ⟨fun h => h.resolve_left (fun h => h hlt), .inr⟩
      rw [hfb] at bad' go'
      clear hfb bad go
      by_cases d0 : d < 0
      · have hb := bad' (.inl d0)
        refine sC [] rfl ?_; refine sC [] rfl ?_
        rw [show decide (d < 0) = true from decide_eq_true d0]
        refine sA [] rfl ?_
        exact ret2 (.inr rfl) rfl rfl rfl ⟨by rw [hb]; rfl, rfl⟩
      · have hk4 : k = 0 ∨ k = 1 ∨ k = 2 ∨ k = 3 := by omega
        rcases hk4 with rfl | rfl | rfl | rfl <;> cases low
        · have hn1 : n ≤ 0 := hn1
          refine sC [] rfl ?_; refine sC [] rfl ?_
          rw [show decide (d < 0) = false from decide_eq_false d0]
          refine sA [] rfl ?_; refine ev_arith rfl rfl rfl rfl rfl (by simp only [lowK, hiK]; omega) ?_; refine sA [] rfl ?_; refine ev_arith rfl rfl rfl rfl rfl (by simp only [lowK, hiK]; omega) ?_; refine sA [] rfl ?_; refine ev_arith rfl rfl rfl rfl rfl (by simp only [lowK, hiK]; omega) ?_; refine sA [] rfl ?_
          have hg := go' (by rintro (h | ⟨h, h2, _⟩ | ⟨h, _⟩) <;> first | omega | (cases h2; done) | (cases h; done))
          skip
          exact ev_next (1, 16 * n + d) (by simp only; omega) ⟨by simp only; omega, by simp only; omega, hg, by simp only; omega, by show 16 * n + d ≤ 15; omega, fun h => (by cases h), rfl⟩ ⟨rfl, rfl, rfl, rfl, rfl, trivial⟩
        · have hn1 : n ≤ 0 := hn1
          refine sC [] rfl ?_; refine sC [] rfl ?_
          rw [show decide (d < 0) = false from decide_eq_false d0]
          refine sC [] rfl ?_; refine sC [] rfl ?_; refine sD [] rfl ?_; refine sD [] rfl ?_; refine sD [] rfl ?_
          by_cases d1 : d = 13
          · rw [show decide (¬ d = 13) = false from decide_eq_false fun h => h d1]
            have hg := go' (by rintro (h | ⟨_, _, h⟩ | ⟨h, _⟩) <;> first | omega | exact h d1 | cases h)
            refine sA [] rfl ?_; refine ev_arith rfl rfl rfl rfl rfl (by simp only [lowK, hiK]; omega) ?_; refine sA [] rfl ?_; refine ev_arith rfl rfl rfl rfl rfl (by simp only [lowK, hiK]; omega) ?_; refine sA [] rfl ?_; refine ev_arith rfl rfl rfl rfl rfl (by simp only [lowK, hiK]; omega) ?_; refine sA [] rfl ?_
            exact ev_next (1, 16 * n + d) (by simp only; omega) ⟨by simp only; omega, by simp only; omega, hg, by simp only; omega, by show 16 * n + d ≤ 15; omega, fun _ h => (by simp only at h; omega), rfl⟩ ⟨rfl, rfl, rfl, rfl, rfl, trivial⟩
          · rw [show decide (¬ d = 13) = true from decide_eq_true d1]
            have hb := bad' (.inr (.inl ⟨rfl, rfl, d1⟩))
            refine sA [] rfl ?_
            exact ret2 (.inr rfl) rfl rfl rfl ⟨by rw [hb]; rfl, rfl⟩
        · have hn1 : n ≤ 15 := hn1
          refine sC [] rfl ?_; refine sC [] rfl ?_
          rw [show decide (d < 0) = false from decide_eq_false d0]
          refine sB [] rfl ?_; refine sC [] rfl ?_; refine sC [] rfl ?_; refine sC [] rfl ?_; refine sC [] rfl ?_
          by_cases d1 : n = 13
          · rw [show decide (n = 13) = true from decide_eq_true d1]
            refine sC [] rfl ?_; refine sD [] rfl ?_
            refine ev_condD rfl (fun d2 => ?_) (fun d2 => ?_)
            · have hb := bad' (.inr (.inr ⟨rfl, by rw [decide_eq_true (by omega)]; decide⟩))
              refine sA [] rfl ?_
              exact ret2 (.inr rfl) rfl rfl rfl ⟨by rw [hb]; rfl, rfl⟩
            · have hg := go' (by rintro (h | ⟨h, _⟩ | ⟨_, h⟩) <;> first | omega | exact h (decide_eq_false (by omega)) | cases h)
              refine sA [] rfl ?_; refine ev_arith rfl rfl rfl rfl rfl (by simp only [lowK, hiK]; omega) ?_; refine sA [] rfl ?_; refine ev_arith rfl rfl rfl rfl rfl (by simp only [lowK, hiK]; omega) ?_; refine sA [] rfl ?_; refine ev_arith rfl rfl rfl rfl rfl (by simp only [lowK, hiK]; omega) ?_; refine sA [] rfl ?_
              exact ev_next (2, 16 * n + d) (by simp only; omega) ⟨by simp only; omega, by simp only; omega, hg, by simp only; omega, by show 16 * n + d ≤ 255; omega, fun h => (by cases h), rfl⟩ ⟨rfl, rfl, rfl, rfl, rfl, trivial⟩
          · rw [show decide (n = 13) = false from decide_eq_false d1]
            have hg := go' (by rintro (h | ⟨h, _⟩ | ⟨_, h⟩) <;> first | omega | exact h (decide_eq_false (by omega)) | cases h)
            refine sA [] rfl ?_; refine ev_arith rfl rfl rfl rfl rfl (by simp only [lowK, hiK]; omega) ?_; refine sA [] rfl ?_; refine ev_arith rfl rfl rfl rfl rfl (by simp only [lowK, hiK]; omega) ?_; refine sA [] rfl ?_; refine ev_arith rfl rfl rfl rfl rfl (by simp only [lowK, hiK]; omega) ?_; refine sA [] rfl ?_
            exact ev_next (2, 16 * n + d) (by simp only; omega) ⟨by simp only; omega, by simp only; omega, hg, by simp only; omega, by show 16 * n + d ≤ 255; omega, fun h => (by cases h), rfl⟩ ⟨rfl, rfl, rfl, rfl, rfl, trivial⟩
        · have hn1 : n ≤ 15 := hn1
          refine sC [] rfl ?_; refine sC [] rfl ?_
          rw [show decide (d < 0) = false from decide_eq_false d0]
          refine sB [] rfl ?_; refine sC [] rfl ?_; refine sD [] rfl ?_
          have hn13 : n = 13 := hl rfl rfl
          by_cases d1 : d < 12
          · rw [show decide (d < 12) = true from decide_eq_true d1]
            have hb := bad' (.inr (.inr ⟨rfl, by rw [decide_eq_false (by omega)]; decide⟩))
            refine sA [] rfl ?_
            exact ret2 (.inr rfl) rfl rfl rfl ⟨by rw [hb]; rfl, rfl⟩
          · rw [show decide (d < 12) = false from decide_eq_false d1]
            have hg := go' (by rintro (h | ⟨h, _⟩ | ⟨_, h⟩) <;> first | omega | exact h (decide_eq_true (by omega)) | cases h)
            refine sA [] rfl ?_; refine ev_arith rfl rfl rfl rfl rfl (by simp only [lowK, hiK]; omega) ?_; refine sA [] rfl ?_; refine ev_arith rfl rfl rfl rfl rfl (by simp only [lowK, hiK]; omega) ?_; refine sA [] rfl ?_; refine ev_arith rfl rfl rfl rfl rfl (by simp only [lowK, hiK]; omega) ?_; refine sA [] rfl ?_
            exact ev_next (2, 16 * n + d) (by simp only; omega) ⟨by simp only; omega, by simp only; omega, hg, by simp only; omega, by show 16 * n + d ≤ 255; omega, fun _ h => (by simp only at h; omega), rfl⟩ ⟨rfl, rfl, rfl, rfl, rfl, trivial⟩
        · have hn1 : n ≤ 255 := hn1
          refine sC [] rfl ?_; refine sC [] rfl ?_
          rw [show decide (d < 0) = false from decide_eq_false d0]
          refine sA [] rfl ?_; refine ev_arith rfl rfl rfl rfl rfl (by simp only [lowK, hiK]; omega) ?_; refine sA [] rfl ?_; refine ev_arith rfl rfl rfl rfl rfl (by simp only [lowK, hiK]; omega) ?_; refine sA [] rfl ?_; refine ev_arith rfl rfl rfl rfl rfl (by simp only [lowK, hiK]; omega) ?_; refine sA [] rfl ?_
          have hg := go' (by rintro (h | ⟨h, h2, _⟩ | ⟨h, _⟩) <;> first | omega | (cases h2; done) | (cases h; done))
          skip
          exact ev_next (3, 16 * n + d) (by simp only; omega) ⟨by simp only; omega, by simp only; omega, hg, by simp only; omega, by show 16 * n + d ≤ 4095; omega, fun h => (by cases h), rfl⟩ ⟨rfl, rfl, rfl, rfl, rfl, trivial⟩
        · have hn1 : n ≤ 255 := hn1
          refine sC [] rfl ?_; refine sC [] rfl ?_
          rw [show decide (d < 0) = false from decide_eq_false d0]
          refine sA [] rfl ?_; refine ev_arith rfl rfl rfl rfl rfl (by simp only [lowK, hiK]; omega) ?_; refine sA [] rfl ?_; refine ev_arith rfl rfl rfl rfl rfl (by simp only [lowK, hiK]; omega) ?_; refine sA [] rfl ?_; refine ev_arith rfl rfl rfl rfl rfl (by simp only [lowK, hiK]; omega) ?_; refine sA [] rfl ?_
          have hg := go' (by rintro (h | ⟨h, h2, _⟩ | ⟨h, _⟩) <;> first | omega | (cases h2; done) | (cases h; done))
          skip
          exact ev_next (3, 16 * n + d) (by simp only; omega) ⟨by simp only; omega, by simp only; omega, hg, by simp only; omega, by show 16 * n + d ≤ 4095; omega, fun _ h => (by simp only at h; omega), rfl⟩ ⟨rfl, rfl, rfl, rfl, rfl, trivial⟩
        · have hn1 : n ≤ 4095 := hn1
          refine sC [] rfl ?_; refine sC [] rfl ?_
          rw [show decide (d < 0) = false from decide_eq_false d0]
          refine sA [] rfl ?_; refine ev_arith rfl rfl rfl rfl rfl (by simp only [lowK, hiK]; omega) ?_; refine sA [] rfl ?_; refine ev_arith rfl rfl rfl rfl rfl (by simp only [lowK, hiK]; omega) ?_; refine sA [] rfl ?_; refine ev_arith rfl rfl rfl rfl rfl (by simp only [lowK, hiK]; omega) ?_; refine sA [] rfl ?_
          have hg := go' (by rintro (h | ⟨h, h2, _⟩ | ⟨h, _⟩) <;> first | omega | (cases h2; done) | (cases h; done))
          skip
          exact ev_next (4, 16 * n + d) (by simp only; omega) ⟨by simp only; omega, by simp only; omega, hg, by simp only; omega, by show 16 * n + d ≤ 65535; omega, fun h => (by cases h), rfl⟩ ⟨rfl, rfl, rfl, rfl, rfl, trivial⟩
        · have hn1 : n ≤ 4095 := hn1
          refine sC [] rfl ?_; refine sC [] rfl ?_
          rw [show decide (d < 0) = false from decide_eq_false d0]
          refine sA [] rfl ?_; refine ev_arith rfl rfl rfl rfl rfl (by simp only [lowK, hiK]; omega) ?_; refine sA [] rfl ?_; refine ev_arith rfl rfl rfl rfl rfl (by simp only [lowK, hiK]; omega) ?_; refine sA [] rfl ?_; refine ev_arith rfl rfl rfl rfl rfl (by simp only [lowK, hiK]; omega) ?_; refine sA [] rfl ?_
          have hg := go' (by rintro (h | ⟨h, h2, _⟩ | ⟨h, _⟩) <;> first | omega | (cases h2; done) | (cases h; done))
          skip
          exact ev_next (4, 16 * n + d) (by simp only; omega) ⟨by simp only; omega, by simp only; omega, hg, by simp only; omega, by show 16 * n + d ≤ 65535; omega, fun _ h => (by simp only at h; omega), rfl⟩ ⟨rfl, rfl, rfl, rfl, rfl, trivial⟩
  · have h4 : k = 4 := by have : ¬ (k : Int) < 4 := h4; omega
    subst h4
    have hF : four t low q = (true, n, q + 4) := hF
    refine sA [] rfl ?_
    exact ret2 (.inr rfl) rfl rfl rfl ⟨by rw [hF]; rfl, rfl⟩
end Go.Wk.YtpnhfkmgnkdleaaDoor
namespace Go.Wk.YtpnhfkmgnkdleaaDoor
open Go Go.Wk Go.Proofs

theorem orB (c : UInt8) : bits .or .u8 (c.toNat : Int) 32 = ((c ||| 32 : UInt8).toNat : Int) := by
  have h := bits_or8 (a := c.toNat) (b := 32) c.toNat_lt (by decide)
  rw [show ((32 : Int)) = ((32 : Nat) : Int) from rfl, h, UInt8.toNat_or]; rfl
abbrev digs : List UInt8 := [48, 49, 50, 51, 52, 53, 54, 55, 56, 57, 97, 98, 99, 100, 101, 102]
theorem idx_all : ∀ n : Fin 256, -1 ≤ Lib.indexByte digs (UInt8.ofNat n.val) ∧ Lib.indexByte digs (UInt8.ofNat n.val) ≤ 15 := by decide +kernel
theorem idx_le (c : UInt8) : -1 ≤ Lib.indexByte digs c ∧ Lib.indexByte digs c ≤ 15 := by
  have h := idx_all ⟨c.toNat, c.toNat_lt⟩
  simpa using h

set_option maxHeartbeats 8000000 in
theorem uqUnit (p : Nat) (t : List UInt8) (low : Bool) (q : Nat) (v : Value) (w : World) (h : Uq w p t q v) (ht : t.length ≤ 9223372036854775000) (hq : q ≤ t.length) :
    CallsF Tryd.prog 99 [.pointer (some ⟨p, 0, none⟩), .bool low] w fun r w' => r = .tuple #[.int .i32 (four t low q).2.1, .bool (four t low q).1] ∧ Uq w' p t (four t low q).2.2 v ∧ Fr (fun b => b = p) w w' := by
  have bad : ∀ {k : Nat} {n : Int}, four t low q = fourF t low (3 - k + 1) k n (q + k) → fBad t low k n (q + k) → four t low q = (false, 0, q + k) := fun h hb => h.trans (fourF_bad hb)
  have go : ∀ {k : Nat} {n : Int}, k < 4 → four t low q = fourF t low (3 - k + 1) k n (q + k) → ¬ fBad t low k n (q + k) → four t low q = fourF t low (4 - (k + 1)) (k + 1) (16 * n + hx (t.getD (q + k) 0)) (q + (k + 1)) := fun {k} {n} hk h hb => by
    rw [show 4 - (k + 1) = 3 - k by omega]; exact h.trans (fourF_go hb)
  refine callsF Tryd.func99 rfl rfl (by decide) rfl ?_
  refine sA [] rfl ?_
  refine ev_loop (α := Nat × Int) (fun y => [(0, .pointer (some ⟨p, 0, none⟩)), (1, .bool low), (6, .int .i32 y.2), (12, .int .i64 y.1)])
    (fun y w' => y.1 ≤ 4 ∧ q + y.1 ≤ t.length ∧ four t low q = fourF t low (4 - y.1) y.1 y.2 (q + y.1) ∧ 0 ≤ y.2 ∧ y.2 ≤ bn y.1 ∧ Uq w' p t (q + y.1) v ∧ Fr (fun b => b = p) w w') (fun y => 4 - y.1) (0, 0) ⟨rfl, rfl, rfl, rfl, trivial⟩ ⟨Nat.zero_le _, hq, rfl, by decide, by decide, h, Fr.refl _ _⟩ ?_
  clear h
  rintro ⟨k, n⟩ w1 ⟨hk, hqk, hF, hn0, hn1, h, hf⟩
  simp only at hk hqk hF hn0 hn1 h
  refine sC [] rfl ?_; refine sD [] rfl ?_
  refine ev_condD rfl (fun h4 => ?_) (fun h4 => ?_)
  · have h4 : k < 4 := by have : (k : Int) < 4 := h4; omega
    rw [show 4 - k = 3 - k + 1 by omega] at hF
    refine sA [] rfl ?_
    refine ev_call rfl rfl rfl (uqNext p t (q + k) v _ h hqk (by omega)) (fun r w2 hr => ?_)
    obtain ⟨rfl, hf2⟩ := hr
    have h := h.fr0 hf2
    have hf : Fr (fun b => b = p) w w2 := hf.trans hf2 fun _ _ z => z.elim
    obtain ⟨c, hc⟩ : ∃ c, c = t.getD (q + k) 0 := ⟨_, rfl⟩
    rw [← hc]
    have hcl := c.toNat_lt
    have hil := idx_le (c ||| 32)
    have hbn : bn k ≤ 4095 := by
      have : k = 0 ∨ k = 1 ∨ k = 2 ∨ k = 3 := by omega
      rcases this with rfl | rfl | rfl | rfl <;> decide
    refine sA [] rfl ?_
    rw [orB]
    refine ev_call rfl rfl rfl (wIdx digs (c ||| 32) _) (fun r w3 hr => ?_)
    obtain ⟨rfl, rfl⟩ := hr
    have hpd := pd_hx c
    have hhx := hx_le c
    obtain ⟨ok, hok⟩ : ∃ b, b = decide (q + k < t.length) := ⟨_, rfl⟩
    rw [← hok]
    have EE : True := trivial
    refine ev_conv rfl rfl tabOk rfl rfl rfl (by simp only [lowK, hiK]; omega) ?_; refine sC [] rfl ?_; refine sC [] rfl ?_
    refine ev_join1 (α := Unit) (fun _ => [(0, .pointer (some ⟨p, 0, none⟩)), (1, .bool low), (6, .int .i32 n), (7, .int .i64 k), (8, bv c), (9, .bool ok), (10, .int .i32 (Lib.indexByte digs (c ||| 32))), (12, .int .i64 k), (29, .bool (decide (48 ≤ c.toNat ∧ c.toNat ≤ 57)))]) (fun _ w' => w' = w3) ?_ ?_
    · by_cases a1 : 48 ≤ c.toNat
      · rw [show decide ((48 : Int) ≤ (c.toNat : Int)) = true from decide_eq_true (by omega)]
        refine sA [] rfl ?_
        exact ev_out () rfl ⟨rfl, rfl, rfl, rfl, rfl, rfl, rfl, rfl, by rw [show decide (48 ≤ c.toNat ∧ c.toNat ≤ 57) = decide ((c.toNat : Int) ≤ 57) from decide_eq_decide.2 (by omega)]; rfl, trivial⟩
      · rw [show decide ((48 : Int) ≤ (c.toNat : Int)) = false from decide_eq_false (by omega)]
        refine sA [] rfl ?_
        exact ev_out () rfl ⟨rfl, rfl, rfl, rfl, rfl, rfl, rfl, rfl, by rw [show decide (48 ≤ c.toNat ∧ c.toNat ≤ 57) = false from decide_eq_false fun z => a1 z.1]; rfl, trivial⟩
    rintro _ w4 rfl
    refine ev_cut (α := Unit) (fun _ => [(0, .pointer (some ⟨p, 0, none⟩)), (1, .bool low), (6, .int .i32 n), (7, .int .i64 k), (8, bv c), (9, .bool ok), (10, .int .i32 (pd c)), (12, .int .i64 k)]) (fun _ w' => w' = w4) ?_ ?_
    · refine ev_condD rfl (fun a1 => ?_) (fun a1 => ?_)
      · have e : (c.toNat : Int) - 48 = pd c := (if_pos a1).symm
        refine sA [] rfl ?_; refine ev_arith rfl rfl rfl rfl rfl (by simp only [lowK, hiK]; omega) ?_; refine ev_conv rfl rfl tabOk rfl rfl rfl (by simp only [lowK, hiK]; omega) ?_; refine sA [] rfl ?_
        exact ev_out () rfl ⟨rfl, rfl, rfl, rfl, rfl, rfl, by rw [← e]; rfl, rfl, trivial⟩
      · have e : Lib.indexByte digs (c ||| 32) = pd c := (if_neg a1).symm
        refine sA [] rfl ?_
        exact ev_out () rfl ⟨rfl, rfl, rfl, rfl, rfl, rfl, by rw [← e]; rfl, rfl, trivial⟩
    rintro _ w5 rfl
    obtain ⟨d, hdd⟩ : ∃ d, d = pd c := ⟨_, rfl⟩
    rw [← hdd] at hpd ⊢
    obtain ⟨hf', hhf⟩ : ∃ b, b = decide (n = 13 ∧ 12 ≤ d) := ⟨_, rfl⟩
    refine sC [] rfl ?_; refine sD [] rfl ?_
    refine ev_join1 (α := Unit) (fun _ => [(0, .pointer (some ⟨p, 0, none⟩)), (1, .bool low), (6, .int .i32 n), (7, .int .i64 k), (8, bv c), (9, .bool ok), (10, .int .i32 d), (11, .bool hf'), (12, .int .i64 k)]) (fun _ w' => w' = w5) ?_ ?_
    · by_cases n13 : n = 13
      · rw [show decide (n = 13) = true from decide_eq_true n13]
        refine sA [] rfl ?_
        exact ev_out () rfl ⟨rfl, rfl, rfl, rfl, rfl, rfl, rfl, by rw [hhf, show decide (n = 13 ∧ 12 ≤ d) = decide (12 ≤ d) from decide_eq_decide.2 ⟨fun h => h.2, fun h => ⟨n13, h⟩⟩]; rfl, rfl, trivial⟩
      · rw [show decide (n = 13) = false from decide_eq_false n13]
        refine sA [] rfl ?_
        exact ev_out () rfl ⟨rfl, rfl, rfl, rfl, rfl, rfl, rfl, by rw [hhf, show decide (n = 13 ∧ 12 ≤ d) = false from decide_eq_false fun z => n13 z.1]; rfl, rfl, trivial⟩
    rintro _ w6 rfl
    have hfb : fBad t low k n (q + k) ↔ (¬ q + k < t.length ∨ hx c < 0 ∨ (k = 0 ∧ low = true ∧ hx c ≠ 13) ∨ (k = 1 ∧ decide (n = 13 ∧ 12 ≤ hx c) ≠ low)) := by
      unfold fBad; rw [← hc]
    obtain ⟨bd, hbd⟩ : ∃ b, b = decide (fBad t low k n (q + k)) := ⟨_, rfl⟩
    have yes : fBad t low k n (q + k) → Value.bool true = Value.bool bd := fun h => by rw [hbd, decide_eq_true h]
    have no' : ¬ fBad t low k n (q + k) → Value.bool false = Value.bool bd := fun h => by rw [hbd, decide_eq_false h]
    rw [hfb] at yes no'
    refine sC [] rfl ?_; refine sD [] rfl ?_; refine sD [] rfl ?_
    refine ev_join1 (α := Unit) (fun _ => [(0, .pointer (some ⟨p, 0, none⟩)), (1, .bool low), (6, .int .i32 n), (10, .int .i32 d), (12, .int .i64 k), (76, .bool bd)]) (fun _ w' => w' = w6) ?_ ?_
    · have hk4 : k = 0 ∨ k = 1 ∨ k = 2 ∨ k = 3 := by omega
      cases ok with
      | false =>
        have lt : ¬ q + k < t.length := of_decide_eq_false hok.symm
        refine sA [] rfl ?_
        exact ev_out () rfl ⟨rfl, rfl, rfl, rfl, rfl, by rw [← yes (.inl lt)]; rfl, trivial⟩
      | true =>
        have lt : q + k < t.length := of_decide_eq_true hok.symm
        refine sC [] rfl ?_
        by_cases d0 : d < 0
        · rw [show decide (d < 0) = true from decide_eq_true d0]
          refine sA [] rfl ?_
          exact ev_out () rfl ⟨rfl, rfl, rfl, rfl, rfl, by rw [← yes (.inr (.inl (hpd.1.1.1 (.inl d0))))]; rfl, trivial⟩
        rw [show decide (d < 0) = false from decide_eq_false d0]
        refine sC [] rfl ?_
        by_cases c0 : c.toNat < 48
        · rw [show decide ((c.toNat : Int) < 48) = true from decide_eq_true (by omega)]
          refine sA [] rfl ?_
          exact ev_out () rfl ⟨rfl, rfl, rfl, rfl, rfl, by rw [← yes (.inr (.inl (hpd.1.1.1 (.inr (.inl c0)))))]; rfl, trivial⟩
        rw [show decide ((c.toNat : Int) < 48) = false from decide_eq_false (by omega)]
        refine sD [] rfl ?_; refine sD [] rfl ?_; refine sD [] rfl ?_
        by_cases c1 : 57 < c.toNat
        · rw [show decide ((57 : Int) < (c.toNat : Int)) = true from decide_eq_true (by omega)]
          refine sC [] rfl ?_; refine sD [] rfl ?_
          by_cases c2 : c.toNat < 65
          · rw [show decide ((c.toNat : Int) < 65) = true from decide_eq_true (by omega)]
            refine sA [] rfl ?_
            exact ev_out () rfl ⟨rfl, rfl, rfl, rfl, rfl, by rw [← yes (.inr (.inl (hpd.1.1.1 (.inr (.inr ⟨c1, c2⟩)))))]; rfl, trivial⟩
          rw [show decide ((c.toNat : Int) < 65) = false from decide_eq_false (by omega)]
          refine sD [] rfl ?_; refine sD [] rfl ?_; refine sD [] rfl ?_
          rcases hk4 with rfl | rfl | rfl | rfl <;> cases low
          · have hd : d = hx c := hpd.1.2 (by omega)
            refine sA [] rfl ?_
            exact ev_out () rfl ⟨rfl, rfl, rfl, rfl, rfl, by rw [← no' (by rintro (z | z | ⟨z, z2, z3⟩ | ⟨z, z2⟩); exact z lt; omega; cases z2; omega)]; rfl, trivial⟩
          · have hd : d = hx c := hpd.1.2 (by omega)
            refine sC [] rfl ?_; refine sC [] rfl ?_
            by_cases d1 : d = 13
            · rw [show decide (¬ d = 13) = false from decide_eq_false fun z => z d1]
              refine sA [] rfl ?_
              exact ev_out () rfl ⟨rfl, rfl, rfl, rfl, rfl, by rw [← no' (by rintro (z | z | ⟨z, z2, z3⟩ | ⟨z, z2⟩); exact z lt; omega; omega; omega)]; rfl, trivial⟩
            · rw [show decide (¬ d = 13) = true from decide_eq_true d1]
              refine sA [] rfl ?_
              exact ev_out () rfl ⟨rfl, rfl, rfl, rfl, rfl, by rw [← yes (.inr (.inr (.inl ⟨rfl, rfl, by omega⟩)))]; rfl, trivial⟩
          · have hd : d = hx c := hpd.1.2 (by omega)
            refine sC [] rfl ?_; refine sC [] rfl ?_; refine sC [] rfl ?_; refine sD [] rfl ?_
            cases hf' with
            | false =>
              have hx2 : decide (n = 13 ∧ 12 ≤ hx c) = false := by rw [← hd]; exact hhf.symm
              refine sA [] rfl ?_
              exact ev_out () rfl ⟨rfl, rfl, rfl, rfl, rfl, by rw [← no' (by rintro (z | z | ⟨z, z2, z3⟩ | ⟨z, z2⟩); exact z lt; omega; omega; exact z2 hx2)]; rfl, trivial⟩
            | true =>
              have hx2 : decide (n = 13 ∧ 12 ≤ hx c) = true := by rw [← hd]; exact hhf.symm
              refine sA [] rfl ?_
              exact ev_out () rfl ⟨rfl, rfl, rfl, rfl, rfl, by rw [← yes (.inr (.inr (.inr ⟨rfl, by rw [hx2]; decide⟩)))]; rfl, trivial⟩
          · have hd : d = hx c := hpd.1.2 (by omega)
            refine sC [] rfl ?_; refine sC [] rfl ?_; refine sC [] rfl ?_; refine sD [] rfl ?_
            cases hf' with
            | false =>
              have hx2 : decide (n = 13 ∧ 12 ≤ hx c) = false := by rw [← hd]; exact hhf.symm
              refine sA [] rfl ?_
              exact ev_out () rfl ⟨rfl, rfl, rfl, rfl, rfl, by rw [← yes (.inr (.inr (.inr ⟨rfl, by rw [hx2]; decide⟩)))]; rfl, trivial⟩
            | true =>
              have hx2 : decide (n = 13 ∧ 12 ≤ hx c) = true := by rw [← hd]; exact hhf.symm
              refine sA [] rfl ?_
              exact ev_out () rfl ⟨rfl, rfl, rfl, rfl, rfl, by rw [← no' (by rintro (z | z | ⟨z, z2, z3⟩ | ⟨z, z2⟩); exact z lt; omega; omega; exact z2 hx2)]; rfl, trivial⟩
          · have hd : d = hx c := hpd.1.2 (by omega)
            refine sA [] rfl ?_
            exact ev_out () rfl ⟨rfl, rfl, rfl, rfl, rfl, by rw [← no' (by rintro (z | z | ⟨z, z2, z3⟩ | ⟨z, z2⟩); exact z lt; omega; omega; omega)]; rfl, trivial⟩
          · have hd : d = hx c := hpd.1.2 (by omega)
            refine sA [] rfl ?_
            exact ev_out () rfl ⟨rfl, rfl, rfl, rfl, rfl, by rw [← no' (by rintro (z | z | ⟨z, z2, z3⟩ | ⟨z, z2⟩); exact z lt; omega; omega; omega)]; rfl, trivial⟩
          · have hd : d = hx c := hpd.1.2 (by omega)
            refine sA [] rfl ?_
            exact ev_out () rfl ⟨rfl, rfl, rfl, rfl, rfl, by rw [← no' (by rintro (z | z | ⟨z, z2, z3⟩ | ⟨z, z2⟩); exact z lt; omega; omega; omega)]; rfl, trivial⟩
          · have hd : d = hx c := hpd.1.2 (by omega)
            refine sA [] rfl ?_
            exact ev_out () rfl ⟨rfl, rfl, rfl, rfl, rfl, by rw [← no' (by rintro (z | z | ⟨z, z2, z3⟩ | ⟨z, z2⟩); exact z lt; omega; omega; omega)]; rfl, trivial⟩
        · rw [show decide ((57 : Int) < (c.toNat : Int)) = false from decide_eq_false (by omega)]
          refine sC [] rfl ?_; refine sC [] rfl ?_
          rcases hk4 with rfl | rfl | rfl | rfl <;> cases low
          · have hd : d = hx c := hpd.1.2 (by omega)
            refine sA [] rfl ?_
            exact ev_out () rfl ⟨rfl, rfl, rfl, rfl, rfl, by rw [← no' (by rintro (z | z | ⟨z, z2, z3⟩ | ⟨z, z2⟩); exact z lt; omega; cases z2; omega)]; rfl, trivial⟩
          · have hd : d = hx c := hpd.1.2 (by omega)
            refine sC [] rfl ?_; refine sC [] rfl ?_
            by_cases d1 : d = 13
            · rw [show decide (¬ d = 13) = false from decide_eq_false fun z => z d1]
              refine sA [] rfl ?_
              exact ev_out () rfl ⟨rfl, rfl, rfl, rfl, rfl, by rw [← no' (by rintro (z | z | ⟨z, z2, z3⟩ | ⟨z, z2⟩); exact z lt; omega; omega; omega)]; rfl, trivial⟩
            · rw [show decide (¬ d = 13) = true from decide_eq_true d1]
              refine sA [] rfl ?_
              exact ev_out () rfl ⟨rfl, rfl, rfl, rfl, rfl, by rw [← yes (.inr (.inr (.inl ⟨rfl, rfl, by omega⟩)))]; rfl, trivial⟩
          · have hd : d = hx c := hpd.1.2 (by omega)
            refine sC [] rfl ?_; refine sC [] rfl ?_; refine sC [] rfl ?_; refine sD [] rfl ?_
            cases hf' with
            | false =>
              have hx2 : decide (n = 13 ∧ 12 ≤ hx c) = false := by rw [← hd]; exact hhf.symm
              refine sA [] rfl ?_
              exact ev_out () rfl ⟨rfl, rfl, rfl, rfl, rfl, by rw [← no' (by rintro (z | z | ⟨z, z2, z3⟩ | ⟨z, z2⟩); exact z lt; omega; omega; exact z2 hx2)]; rfl, trivial⟩
            | true =>
              have hx2 : decide (n = 13 ∧ 12 ≤ hx c) = true := by rw [← hd]; exact hhf.symm
              refine sA [] rfl ?_
              exact ev_out () rfl ⟨rfl, rfl, rfl, rfl, rfl, by rw [← yes (.inr (.inr (.inr ⟨rfl, by rw [hx2]; decide⟩)))]; rfl, trivial⟩
          · have hd : d = hx c := hpd.1.2 (by omega)
            refine sC [] rfl ?_; refine sC [] rfl ?_; refine sC [] rfl ?_; refine sD [] rfl ?_
            cases hf' with
            | false =>
              have hx2 : decide (n = 13 ∧ 12 ≤ hx c) = false := by rw [← hd]; exact hhf.symm
              refine sA [] rfl ?_
              exact ev_out () rfl ⟨rfl, rfl, rfl, rfl, rfl, by rw [← yes (.inr (.inr (.inr ⟨rfl, by rw [hx2]; decide⟩)))]; rfl, trivial⟩
            | true =>
              have hx2 : decide (n = 13 ∧ 12 ≤ hx c) = true := by rw [← hd]; exact hhf.symm
              refine sA [] rfl ?_
              exact ev_out () rfl ⟨rfl, rfl, rfl, rfl, rfl, by rw [← no' (by rintro (z | z | ⟨z, z2, z3⟩ | ⟨z, z2⟩); exact z lt; omega; omega; exact z2 hx2)]; rfl, trivial⟩
          · have hd : d = hx c := hpd.1.2 (by omega)
            refine sA [] rfl ?_
            exact ev_out () rfl ⟨rfl, rfl, rfl, rfl, rfl, by rw [← no' (by rintro (z | z | ⟨z, z2, z3⟩ | ⟨z, z2⟩); exact z lt; omega; omega; omega)]; rfl, trivial⟩
          · have hd : d = hx c := hpd.1.2 (by omega)
            refine sA [] rfl ?_
            exact ev_out () rfl ⟨rfl, rfl, rfl, rfl, rfl, by rw [← no' (by rintro (z | z | ⟨z, z2, z3⟩ | ⟨z, z2⟩); exact z lt; omega; omega; omega)]; rfl, trivial⟩
          · have hd : d = hx c := hpd.1.2 (by omega)
            refine sA [] rfl ?_
            exact ev_out () rfl ⟨rfl, rfl, rfl, rfl, rfl, by rw [← no' (by rintro (z | z | ⟨z, z2, z3⟩ | ⟨z, z2⟩); exact z lt; omega; omega; omega)]; rfl, trivial⟩
          · have hd : d = hx c := hpd.1.2 (by omega)
            refine sA [] rfl ?_
            exact ev_out () rfl ⟨rfl, rfl, rfl, rfl, rfl, by rw [← no' (by rintro (z | z | ⟨z, z2, z3⟩ | ⟨z, z2⟩); exact z lt; omega; omega; omega)]; rfl, trivial⟩
    rintro _ w7 rfl
    refine ev_condD (p := bd = true) (by cases bd <;> rfl) (fun hb => ?_) (fun hb => ?_)
    · have hb := bad hF (of_decide_eq_true (hbd.symm.trans hb))
      refine sA [] rfl ?_
      exact ret2 (.inr rfl) rfl rfl rfl ⟨by rw [hb], by rw [hb]; exact h, hf⟩
    · have hnb : ¬ fBad t low k n (q + k) := fun z => hb (hbd.trans (decide_eq_true z))
      have hg := go h4 hF hnb
      rw [← hc] at hg
      rw [hfb] at hnb
      have hd : d = hx c := hpd.1.2 fun z => hnb (.inr (.inl (hpd.1.1.1 z)))
      have hd0 : 0 ≤ d := by have : ¬ hx c < 0 := fun z => hnb (.inr (.inl z)); omega
      have hbk : 16 * n + d ≤ bn (k + 1) := by
        have hk4 : k = 0 ∨ k = 1 ∨ k = 2 ∨ k = 3 := by omega
        rcases hk4 with rfl | rfl | rfl | rfl
        · have : n ≤ 0 := hn1
          show 16 * n + d ≤ 15
          omega
        · have : n ≤ 15 := hn1
          show 16 * n + d ≤ 255
          omega
        · have : n ≤ 255 := hn1
          show 16 * n + d ≤ 4095
          omega
        · have : n ≤ 4095 := hn1
          show 16 * n + d ≤ 65535
          omega
      refine sA [] rfl ?_; refine ev_arith rfl rfl rfl rfl rfl (by simp only [lowK, hiK]; omega) ?_; refine sA [] rfl ?_; refine ev_arith rfl rfl rfl rfl rfl (by simp only [lowK, hiK]; omega) ?_; refine sA [] rfl ?_; refine ev_loadB rfl rfl tabOk rfl rfl ‹_› (by rfl) ?_; refine ev_arith rfl rfl rfl rfl rfl (by simp only [lowK, hiK]; omega) ?_; refine sA [] rfl ?_
      refine ev_store tabOk rfl rfl rfl rfl rfl rfl h rfl (fun w8 h8 hf8 => ?_)
      have hf8 := hf.trans hf8 fun _ _ z => z
      clear h
      refine sA [] rfl ?_; refine ev_arith rfl rfl rfl rfl rfl (by simp only [lowK, hiK]; omega) ?_; refine sA [] rfl ?_
      exact ev_next (k + 1, 16 * n + d) (by simp only; omega) ⟨by simp only; omega, by simp only; omega, by rw [hd]; exact hg, by simp only; omega, hbk, h8, hf8⟩ ⟨rfl, rfl, rfl, rfl, trivial⟩
  · have h4 : k = 4 := by have : ¬ (k : Int) < 4 := h4; omega
    subst h4
    have hF : four t low q = (true, n, q + 4) := hF
    refine sA [] rfl ?_
    exact ret2 (.inr rfl) rfl rfl rfl ⟨by rw [hF], by rw [hF]; exact h, hf⟩
end Go.Wk.YtpnhfkmgnkdleaaDoor
