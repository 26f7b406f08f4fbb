/-
  The walks of chapter 14: the unquoter's steps; a byte's place in a text.
-/
import Derived.Test.YtpnhfkmgnkdleaaDoorStB
import Derived.Test.YtpnhfkmgnkdleaaDoorStD
import Derived.Test.YtpnhfkmgnkdleaaDoorQB
import Derived.Lib.Bytealg
set_option linter.unusedVariables false
namespace Go.Wk.YtpnhfkmgnkdleaaDoor
open Go Go.Wk Go.Proofs

theorem wIdx0 (s : List UInt8) (c : UInt8) (w : World) : CallsF Tryd.prog 88 [.string (sOf s), bv c] w fun r w' => r = .int .i64 (Lib.indexByte s c) ∧ w' = w := by
  have hr := Lib.run_indexByteString (P := Tryd.prog) (sOf s) c.toNat w
  have hc : ((c.toNat : Int).toNat).toUInt8 = c := by simp
  rw [hc] at hr
  refine callsF Tryd.func88 rfl rfl (by decide) rfl ?_
  refine sA [] rfl ?_
  refine ev_ext rfl rfl rfl Tryd.func101 (by kernel_rfl) (by kernel_rfl) (by kernel_rfl) (by kernel_rfl) hr ?_
  refine sA [] rfl ?_
  exact ret1 (.inr rfl) rfl rfl ⟨rfl, rfl⟩
theorem wIdx (s : List UInt8) (c : UInt8) (w : World) : CallsF Tryd.prog 66 [.string (sOf s), bv c] w fun r w' => r = .int .i64 (Lib.indexByte s c) ∧ w' = w := by
  refine callsF Tryd.func66 rfl rfl (by decide) rfl ?_
  refine sA [] rfl ?_
  refine ev_call rfl rfl rfl (wIdx0 s c _) (fun r w1 hr => ?_)
  obtain ⟨rfl, rfl⟩ := hr
  refine sA [] rfl ?_
  exact ret1 (.inr rfl) rfl rfl ⟨rfl, rfl⟩

/-- an unquoter: its text, its place, what it has read -/
abbrev Uq (w : World) (p : Nat) (t : List UInt8) (q : Nat) (v : Value) : Prop := Blk w p [.string (sOf t), .int .i64 q, v] 102
theorem uqNext (p : Nat) (t : List UInt8) (q : Nat) (v : Value) (w : World) (h : Uq w p t q v) (hq : q ≤ t.length) (ht : t.length ≤ 9223372036854775800) :
    CallsF Tryd.prog 84 [.pointer (some ⟨p, 0, none⟩)] w fun r w' => r = .tuple #[bv (t.getD q 0), .bool (decide (q < t.length))] ∧ Fr no w w' := by
  refine callsF Tryd.func84 rfl rfl (by decide) rfl ?_
  refine sA [] rfl ?_
  refine ev_draw mixed (by kernel_rfl) ?_
  refine qA rfl ?_; refine q_loadB rfl rfl tabOk rfl rfl ‹_› (by rfl) ?_; refine qA rfl ?_; refine q_loadB rfl rfl tabOk rfl rfl ‹_› (by rfl) ?_; refine qA rfl ?_
  refine q_end fun w1 hf1 => ?_
  have h1 := h.fr0 hf1
  refine ev_condD rfl (fun he => ?_) (fun he => ?_)
  · have he : q = t.length := by omega
    have hg : t.getD q 0 = 0 := by rw [List.getD_eq_getElem?_getD, List.getElem?_eq_none (by omega)]; rfl
    refine sA [] rfl ?_
    exact ret2 (.inr rfl) rfl rfl rfl ⟨by rw [hg, decide_eq_false (by omega)]; rfl, hf1⟩
  · clear h
    refine sA [] rfl ?_
    refine ev_draw mixed (by kernel_rfl) ?_
    refine qA rfl ?_; refine q_loadB rfl rfl tabOk rfl rfl ‹_› (by rfl) ?_; refine qA rfl ?_; refine q_loadB rfl rfl tabOk rfl rfl ‹_› (by rfl) ?_; refine q_index rfl rfl tabOk rfl rfl rfl (by omega) (by omega) ?_; refine qA rfl ?_
    refine q_end fun w2 hf2 => ?_
    refine sA [] rfl ?_
    exact ret2 (.inr rfl) rfl rfl rfl ⟨by rw [decide_eq_true (show q < t.length by omega)]; rfl, hf1.tr hf2⟩
theorem uqIs (p : Nat) (t : List UInt8) (q : Nat) (v : Value) (c : UInt8) (w : World) (h : Uq w p t q v) (hq : q ≤ t.length) (ht : t.length ≤ 9223372036854775800) :
    CallsF Tryd.prog 83 [.pointer (some ⟨p, 0, none⟩), bv c] w fun r w' => r = .bool (decide (q < t.length ∧ t.getD q 0 = c)) ∧ Uq w' p t (if q < t.length ∧ t.getD q 0 = c then q + 1 else q) v ∧ Fr (fun b => b = p) w w' := by
  refine callsF Tryd.func83 rfl rfl (by decide) rfl ?_
  refine sA [] rfl ?_
  refine ev_call rfl rfl rfl (uqNext p t q v _ h hq ht) (fun r w1 hr => ?_)
  obtain ⟨rfl, hf1⟩ := hr
  have h1 := h.fr0 hf1
  clear h
  have hfp : Fr (fun b => b = p) w w1 := hf1.mono fun _ _ z => z.elim
  by_cases hlt : q < t.length
  · rw [decide_eq_true hlt]
    refine sC [] rfl ?_; refine sC [] rfl ?_; refine sC [] rfl ?_; refine sC [] rfl ?_
    refine ev_condD rfl (fun hc => ?_) (fun hc => ?_)
    · have hn : ¬ t.getD q 0 = c := fun e => hc (by rw [e])
      refine sA [] rfl ?_
      exact ret1 (.inr rfl) rfl rfl ⟨by rw [decide_eq_false fun h => hn h.2], by rw [if_neg fun h => hn h.2]; exact h1, hfp⟩
    · have hn : t.getD q 0 = c := by
        have := Decidable.not_not.1 hc
        exact UInt8.toNat_inj.1 (by omega)
      refine sA [] rfl ?_; refine ev_loadB rfl rfl tabOk rfl rfl ‹_› (by rfl) ?_; refine ev_arith rfl rfl rfl rfl rfl (by simp only [lowK, hiK]; omega) ?_; refine sA [] rfl ?_
      refine ev_store tabOk rfl rfl rfl rfl rfl rfl h1 rfl (fun w2 h2 hf2 => ?_)
      clear h1
      refine sA [] rfl ?_
      exact ret1 (.inr rfl) rfl rfl ⟨by rw [decide_eq_true ⟨hlt, hn⟩], by rw [if_pos ⟨hlt, hn⟩]; exact h2, hfp.trans hf2 fun _ _ e => e⟩
  · rw [decide_eq_false hlt]
    refine sA [] rfl ?_
    exact ret1 (.inr rfl) rfl rfl ⟨by rw [decide_eq_false fun h => hlt h.1], by rw [if_neg fun h => hlt h.1]; exact h1, hfp⟩

/-- what a digit to the base 16 says; -1: it is none -/
def hx (c : UInt8) : Int := if 48 ≤ c.toNat ∧ c.toNat ≤ 57 then (c.toNat : Int) - 48 else if 97 ≤ c.toNat ∧ c.toNat ≤ 102 then (c.toNat : Int) - 87 else if 65 ≤ c.toNat ∧ c.toNat ≤ 70 then (c.toNat : Int) - 55 else -1
theorem hx_le (c : UInt8) : -1 ≤ hx c ∧ hx c ≤ 15 := by unfold hx; split; omega; split; omega; split <;> omega
theorem refHex (c : UInt8) (w : World) : CallsF Tryd.prog 87 [bv c] w fun r w' => r = .int .i64 (hx c) ∧ w' = w := by
  have hc := c.toNat_lt
  refine callsF Tryd.func87 rfl rfl (by decide) rfl ?_
  refine sC [] rfl ?_; refine sC [] rfl ?_; refine sD [] rfl ?_; refine sD [] rfl ?_
  by_cases a1 : 48 ≤ c.toNat
  · rw [show decide ((48 : Int) ≤ (c.toNat : Int)) = true from decide_eq_true (by omega)]
    refine sC [] rfl ?_
    refine ev_condD rfl (fun b1 => ?_) (fun b1 => ?_)
    · refine sA [] rfl ?_; refine ev_arith rfl rfl rfl rfl rfl (by simp only [lowK, hiK]; omega) ?_; refine ev_conv rfl rfl tabOk rfl rfl rfl (by simp only [lowK, hiK]; omega) ?_; refine sA [] rfl ?_
      exact ret1 (.inr rfl) rfl rfl ⟨by unfold hx; rw [if_pos (by omega)] <;> (congr 1; omega), rfl⟩
    · refine sC [] rfl ?_; refine sD [] rfl ?_; refine sD [] rfl ?_; refine sD [] rfl ?_
      by_cases a2 : 97 ≤ c.toNat
      · rw [show decide ((97 : Int) ≤ (c.toNat : Int)) = true from decide_eq_true (by omega)]
        refine sC [] rfl ?_
        refine ev_condD rfl (fun b2 => ?_) (fun b2 => ?_)
        · refine sA [] rfl ?_; refine ev_arith rfl rfl rfl rfl rfl (by simp only [lowK, hiK]; omega) ?_; refine ev_conv rfl rfl tabOk rfl rfl rfl (by simp only [lowK, hiK]; omega) ?_; refine ev_arith rfl rfl rfl rfl rfl (by simp only [lowK, hiK]; omega) ?_; refine sA [] rfl ?_
          exact ret1 (.inr rfl) rfl rfl ⟨by unfold hx; rw [if_neg (by omega), if_pos (by omega)] <;> (congr 1; omega), rfl⟩
        · refine sC [] rfl ?_; refine sD [] rfl ?_; refine sD [] rfl ?_; refine sD [] rfl ?_
          by_cases a4 : 65 ≤ c.toNat
          · rw [show decide ((65 : Int) ≤ (c.toNat : Int)) = true from decide_eq_true (by omega)]
            refine sC [] rfl ?_
            refine ev_condD rfl (fun b4 => ?_) (fun b4 => ?_)
            · refine sA [] rfl ?_; refine ev_arith rfl rfl rfl rfl rfl (by simp only [lowK, hiK]; omega) ?_; refine ev_conv rfl rfl tabOk rfl rfl rfl (by simp only [lowK, hiK]; omega) ?_; refine ev_arith rfl rfl rfl rfl rfl (by simp only [lowK, hiK]; omega) ?_; refine sA [] rfl ?_
              exact ret1 (.inr rfl) rfl rfl ⟨by unfold hx; rw [if_neg (by omega), if_neg (by omega), if_pos (by omega)] <;> (congr 1; omega), rfl⟩
            · refine sA [] rfl ?_
              exact ret1 (.inr rfl) rfl rfl ⟨by unfold hx; rw [if_neg (by omega), if_neg (by omega), if_neg (by omega)], rfl⟩
          · rw [show decide ((65 : Int) ≤ (c.toNat : Int)) = false from decide_eq_false (by omega)]
            refine sA [] rfl ?_
            exact ret1 (.inr rfl) rfl rfl ⟨by unfold hx; rw [if_neg (by omega), if_neg (by omega), if_neg (by omega)], rfl⟩
      · rw [show decide ((97 : Int) ≤ (c.toNat : Int)) = false from decide_eq_false (by omega)]
        refine sC [] rfl ?_; refine sC [] rfl ?_; refine sC [] rfl ?_
        by_cases a5 : 65 ≤ c.toNat
        · rw [show decide ((65 : Int) ≤ (c.toNat : Int)) = true from decide_eq_true (by omega)]
          refine sC [] rfl ?_
          refine ev_condD rfl (fun b5 => ?_) (fun b5 => ?_)
          · refine sA [] rfl ?_; refine ev_arith rfl rfl rfl rfl rfl (by simp only [lowK, hiK]; omega) ?_; refine ev_conv rfl rfl tabOk rfl rfl rfl (by simp only [lowK, hiK]; omega) ?_; refine ev_arith rfl rfl rfl rfl rfl (by simp only [lowK, hiK]; omega) ?_; refine sA [] rfl ?_
            exact ret1 (.inr rfl) rfl rfl ⟨by unfold hx; rw [if_neg (by omega), if_neg (by omega), if_pos (by omega)] <;> (congr 1; omega), rfl⟩
          · refine sA [] rfl ?_
            exact ret1 (.inr rfl) rfl rfl ⟨by unfold hx; rw [if_neg (by omega), if_neg (by omega), if_neg (by omega)], rfl⟩
        · rw [show decide ((65 : Int) ≤ (c.toNat : Int)) = false from decide_eq_false (by omega)]
          refine sA [] rfl ?_
          exact ret1 (.inr rfl) rfl rfl ⟨by unfold hx; rw [if_neg (by omega), if_neg (by omega), if_neg (by omega)], rfl⟩
  · rw [show decide ((48 : Int) ≤ (c.toNat : Int)) = false from decide_eq_false (by omega)]
    refine sC [] rfl ?_; refine sC [] rfl ?_; refine sC [] rfl ?_
    by_cases a3 : 97 ≤ c.toNat
    · rw [show decide ((97 : Int) ≤ (c.toNat : Int)) = true from decide_eq_true (by omega)]
      refine sC [] rfl ?_
      refine ev_condD rfl (fun b3 => ?_) (fun b3 => ?_)
      · refine sA [] rfl ?_; refine ev_arith rfl rfl rfl rfl rfl (by simp only [lowK, hiK]; omega) ?_; refine ev_conv rfl rfl tabOk rfl rfl rfl (by simp only [lowK, hiK]; omega) ?_; refine ev_arith rfl rfl rfl rfl rfl (by simp only [lowK, hiK]; omega) ?_; refine sA [] rfl ?_
        exact ret1 (.inr rfl) rfl rfl ⟨by unfold hx; rw [if_neg (by omega), if_pos (by omega)] <;> (congr 1; omega), rfl⟩
      · refine sC [] rfl ?_; refine sD [] rfl ?_; refine sD [] rfl ?_; refine sD [] rfl ?_
        by_cases a6 : 65 ≤ c.toNat
        · rw [show decide ((65 : Int) ≤ (c.toNat : Int)) = true from decide_eq_true (by omega)]
          refine sC [] rfl ?_
          refine ev_condD rfl (fun b6 => ?_) (fun b6 => ?_)
          · refine sA [] rfl ?_; refine ev_arith rfl rfl rfl rfl rfl (by simp only [lowK, hiK]; omega) ?_; refine ev_conv rfl rfl tabOk rfl rfl rfl (by simp only [lowK, hiK]; omega) ?_; refine ev_arith rfl rfl rfl rfl rfl (by simp only [lowK, hiK]; omega) ?_; refine sA [] rfl ?_
            exact ret1 (.inr rfl) rfl rfl ⟨by unfold hx; rw [if_neg (by omega), if_neg (by omega), if_pos (by omega)] <;> (congr 1; omega), rfl⟩
          · refine sA [] rfl ?_
            exact ret1 (.inr rfl) rfl rfl ⟨by unfold hx; rw [if_neg (by omega), if_neg (by omega), if_neg (by omega)], rfl⟩
        · rw [show decide ((65 : Int) ≤ (c.toNat : Int)) = false from decide_eq_false (by omega)]
          refine sA [] rfl ?_
          exact ret1 (.inr rfl) rfl rfl ⟨by unfold hx; rw [if_neg (by omega), if_neg (by omega), if_neg (by omega)], rfl⟩
    · rw [show decide ((97 : Int) ≤ (c.toNat : Int)) = false from decide_eq_false (by omega)]
      refine sC [] rfl ?_; refine sC [] rfl ?_; refine sC [] rfl ?_
      by_cases a7 : 65 ≤ c.toNat
      · rw [show decide ((65 : Int) ≤ (c.toNat : Int)) = true from decide_eq_true (by omega)]
        refine sC [] rfl ?_
        refine ev_condD rfl (fun b7 => ?_) (fun b7 => ?_)
        · refine sA [] rfl ?_; refine ev_arith rfl rfl rfl rfl rfl (by simp only [lowK, hiK]; omega) ?_; refine ev_conv rfl rfl tabOk rfl rfl rfl (by simp only [lowK, hiK]; omega) ?_; refine ev_arith rfl rfl rfl rfl rfl (by simp only [lowK, hiK]; omega) ?_; refine sA [] rfl ?_
          exact ret1 (.inr rfl) rfl rfl ⟨by unfold hx; rw [if_neg (by omega), if_neg (by omega), if_pos (by omega)] <;> (congr 1; omega), rfl⟩
        · refine sA [] rfl ?_
          exact ret1 (.inr rfl) rfl rfl ⟨by unfold hx; rw [if_neg (by omega), if_neg (by omega), if_neg (by omega)], rfl⟩
      · rw [show decide ((65 : Int) ≤ (c.toNat : Int)) = false from decide_eq_false (by omega)]
        refine sA [] rfl ?_
        exact ret1 (.inr rfl) rfl rfl ⟨by unfold hx; rw [if_neg (by omega), if_neg (by omega), if_neg (by omega)], rfl⟩

/-- a digit as the program reads it -/
def pd (c : UInt8) : Int := if 48 ≤ c.toNat ∧ c.toNat ≤ 57 then (c.toNat : Int) - 48 else Lib.indexByte [48, 49, 50, 51, 52, 53, 54, 55, 56, 57, 97, 98, 99, 100, 101, 102] (c ||| 32)
theorem pd_all : ∀ n : Fin 256, (((pd (UInt8.ofNat n.val) < 0 ∨ n.val < 48 ∨ (57 < n.val ∧ n.val < 65)) ↔ hx (UInt8.ofNat n.val) < 0) ∧ (¬ (pd (UInt8.ofNat n.val) < 0 ∨ n.val < 48 ∨ (57 < n.val ∧ n.val < 65)) → pd (UInt8.ofNat n.val) = hx (UInt8.ofNat n.val))) ∧ -1 ≤ pd (UInt8.ofNat n.val) ∧ pd (UInt8.ofNat n.val) ≤ 15 := by decide +kernel
theorem pd_hx (c : UInt8) : (((pd c < 0 ∨ c.toNat < 48 ∨ (57 < c.toNat ∧ c.toNat < 65)) ↔ hx c < 0) ∧ (¬ (pd c < 0 ∨ c.toNat < 48 ∨ (57 < c.toNat ∧ c.toNat < 65)) → pd c = hx c)) ∧ -1 ≤ pd c ∧ pd c ≤ 15 := by
  have h := pd_all ⟨c.toNat, c.toNat_lt⟩
  simpa using h
/-- what is wrong with digit k of four, after n -/
def fBad (t : List UInt8) (low : Bool) (k : Nat) (n : Int) (q : Nat) : Prop := ¬ q < t.length ∨ hx (t.getD q 0) < 0 ∨ (k = 0 ∧ low = true ∧ hx (t.getD q 0) ≠ 13) ∨ (k = 1 ∧ decide (n = 13 ∧ 12 ≤ hx (t.getD q 0)) ≠ low)
instance (t : List UInt8) (low : Bool) (k : Nat) (n : Int) (q : Nat) : Decidable (fBad t low k n q) := by unfold fBad; infer_instance
/-- four digits: all right?, their number, the place -/
def fourF (t : List UInt8) (low : Bool) : Nat → Nat → Int → Nat → Bool × Int × Nat
  | 0, _, n, q => (true, n, q)
  | f + 1, k, n, q => if fBad t low k n q then (false, 0, q) else fourF t low f (k + 1) (16 * n + hx (t.getD q 0)) (q + 1)
theorem fourF_bad {t : List UInt8} {low : Bool} {f k : Nat} {n : Int} {q : Nat} (h : fBad t low k n q) : fourF t low (f + 1) k n q = (false, 0, q) := if_pos h
theorem fourF_go {t : List UInt8} {low : Bool} {f k : Nat} {n : Int} {q : Nat} (h : ¬ fBad t low k n q) : fourF t low (f + 1) k n q = fourF t low f (k + 1) (16 * n + hx (t.getD q 0)) (q + 1) := if_neg h
abbrev four (t : List UInt8) (low : Bool) (q : Nat) : Bool × Int × Nat := fourF t low 4 0 0 q
end Go.Wk.YtpnhfkmgnkdleaaDoor
