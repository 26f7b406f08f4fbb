/-
  The walks of chapter 14: the unquoter's four digits (printed by tool/mkunit.py).
-/
import Derived.Test.YtpnhfkmgnkdleaaDoorSqB
import Derived.Test.YtpnhfkmgnkdleaaDoorBits
set_option linter.unusedVariables false
namespace Go.Wk.YtpnhfkmgnkdleaaDoor
open Go Go.Wk Go.Proofs

theorem orB (c : UInt8) : bits .or .u8 (c.toNat : Int) 32 = ((c ||| 32 : UInt8).toNat : Int) := by
  have h := bits_or8 (a := c.toNat) (b := 32) c.toNat_lt (by decide)
  rw [show ((32 : Int)) = ((32 : Nat) : Int) from rfl, h, UInt8.toNat_or]; rfl
abbrev digs : List UInt8 := [48, 49, 50, 51, 52, 53, 54, 55, 56, 57, 97, 98, 99, 100, 101, 102]
theorem idx_all : ∀ n : Fin 256, -1 ≤ Lib.indexByte digs (UInt8.ofNat n.val) ∧ Lib.indexByte digs (UInt8.ofNat n.val) ≤ 15 := by decide +kernel
theorem idx_le (c : UInt8) : -1 ≤ Lib.indexByte digs c ∧ Lib.indexByte digs c ≤ 15 := by
  have h := idx_all ⟨c.toNat, c.toNat_lt⟩
  simpa using h

set_option maxHeartbeats 8000000 in
theorem uqUnit (p : Nat) (t : List UInt8) (low : Bool) (q : Nat) (v : Value) (w : World) (h : Uq w p t q v) (ht : t.length ≤ 9223372036854775000) (hq : q ≤ t.length) :
    CallsF Tryd.prog 99 [.pointer (some ⟨p, 0, none⟩), .bool low] w fun r w' => r = .tuple #[.int .i32 (four t low q).2.1, .bool (four t low q).1] ∧ Uq w' p t (four t low q).2.2 v ∧ Fr (fun b => b = p) w w' := by
  have bad : ∀ {k : Nat} {n : Int}, four t low q = fourF t low (3 - k + 1) k n (q + k) → fBad t low k n (q + k) → four t low q = (false, 0, q + k) := fun h hb => h.trans (fourF_bad hb)
  have go : ∀ {k : Nat} {n : Int}, k < 4 → four t low q = fourF t low (3 - k + 1) k n (q + k) → ¬ fBad t low k n (q + k) → four t low q = fourF t low (4 - (k + 1)) (k + 1) (16 * n + hx (t.getD (q + k) 0)) (q + (k + 1)) := fun {k} {n} hk h hb => by
    rw [show 4 - (k + 1) = 3 - k by omega]; exact h.trans (fourF_go hb)
  refine callsF Tryd.func99 rfl rfl (by decide) rfl ?_
  refine sA [] rfl ?_
  refine ev_loop (α := Nat × Int) (fun y => [(0, .pointer (some ⟨p, 0, none⟩)), (1, .bool low), (6, .int .i32 y.2), (12, .int .i64 y.1)])
    (fun y w' => y.1 ≤ 4 ∧ q + y.1 ≤ t.length ∧ four t low q = fourF t low (4 - y.1) y.1 y.2 (q + y.1) ∧ 0 ≤ y.2 ∧ y.2 ≤ bn y.1 ∧ Uq w' p t (q + y.1) v ∧ Fr (fun b => b = p) w w') (fun y => 4 - y.1) (0, 0) ⟨rfl, rfl, rfl, rfl, trivial⟩ ⟨Nat.zero_le _, hq, rfl, by decide, by decide, h, Fr.refl _ _⟩ ?_
  clear h
  rintro ⟨k, n⟩ w1 ⟨hk, hqk, hF, hn0, hn1, h, hf⟩
  simp only at hk hqk hF hn0 hn1 h
  refine sC [] rfl ?_; refine sD [] rfl ?_
  refine ev_condD rfl (fun h4 => ?_) (fun h4 => ?_)
  · have h4 : k < 4 := by have : (k : Int) < 4 := h4; omega
    rw [show 4 - k = 3 - k + 1 by omega] at hF
    refine sA [] rfl ?_
    refine ev_call rfl rfl rfl (uqNext p t (q + k) v _ h hqk (by omega)) (fun r w2 hr => ?_)
    obtain ⟨rfl, hf2⟩ := hr
    have h := h.fr0 hf2
    have hf : Fr (fun b => b = p) w w2 := hf.trans hf2 fun _ _ z => z.elim
    obtain ⟨c, hc⟩ : ∃ c, c = t.getD (q + k) 0 := ⟨_, rfl⟩
    rw [← hc]
    have hcl := c.toNat_lt
    have hil := idx_le (c ||| 32)
    have hbn : bn k ≤ 4095 := by
      have : k = 0 ∨ k = 1 ∨ k = 2 ∨ k = 3 := by omega
      rcases this with rfl | rfl | rfl | rfl <;> decide
    refine sA [] rfl ?_
    rw [orB]
    refine ev_call rfl rfl rfl (wIdx digs (c ||| 32) _) (fun r w3 hr => ?_)
    obtain ⟨rfl, rfl⟩ := hr
    have hpd := pd_hx c
    have hhx := hx_le c
    obtain ⟨ok, hok⟩ : ∃ b, b = decide (q + k < t.length) := ⟨_, rfl⟩
    rw [← hok]
    have EE : True := trivial
    refine ev_conv rfl rfl tabOk rfl rfl rfl (by simp only [lowK, hiK]; omega) ?_; refine sC [] rfl ?_; refine sC [] rfl ?_
    refine ev_join1 (α := Unit) (fun _ => [(0, .pointer (some ⟨p, 0, none⟩)), (1, .bool low), (6, .int .i32 n), (7, .int .i64 k), (8, bv c), (9, .bool ok), (10, .int .i32 (Lib.indexByte digs (c ||| 32))), (12, .int .i64 k), (29, .bool (decide (48 ≤ c.toNat ∧ c.toNat ≤ 57)))]) (fun _ w' => w' = w3) ?_ ?_
    · by_cases a1 : 48 ≤ c.toNat
      · rw [show decide ((48 : Int) ≤ (c.toNat : Int)) = true from decide_eq_true (by omega)]
        refine sA [] rfl ?_
        exact ev_out () rfl ⟨rfl, rfl, rfl, rfl, rfl, rfl, rfl, rfl, by rw [show decide (48 ≤ c.toNat ∧ c.toNat ≤ 57) = decide ((c.toNat : Int) ≤ 57) from decide_eq_decide.2 (by omega)]; rfl, trivial⟩
      · rw [show decide ((48 : Int) ≤ (c.toNat : Int)) = false from decide_eq_false (by omega)]
        refine sA [] rfl ?_
        exact ev_out () rfl ⟨rfl, rfl, rfl, rfl, rfl, rfl, rfl, rfl, by rw [show decide (48 ≤ c.toNat ∧ c.toNat ≤ 57) = false from decide_eq_false fun z => a1 z.1]; rfl, trivial⟩
    rintro _ w4 rfl
    refine ev_cut (α := Unit) (fun _ => [(0, .pointer (some ⟨p, 0, none⟩)), (1, .bool low), (6, .int .i32 n), (7, .int .i64 k), (8, bv c), (9, .bool ok), (10, .int .i32 (pd c)), (12, .int .i64 k)]) (fun _ w' => w' = w4) ?_ ?_
    · refine ev_condD rfl (fun a1 => ?_) (fun a1 => ?_)
      · have e : (c.toNat : Int) - 48 = pd c := (if_pos a1).symm
        refine sA [] rfl ?_; refine ev_arith rfl rfl rfl rfl rfl (by simp only [lowK, hiK]; omega) ?_; refine ev_conv rfl rfl tabOk rfl rfl rfl (by simp only [lowK, hiK]; omega) ?_; refine sA [] rfl ?_
        exact ev_out () rfl ⟨rfl, rfl, rfl, rfl, rfl, rfl, by rw [← e]; rfl, rfl, trivial⟩
      · have e : Lib.indexByte digs (c ||| 32) = pd c := (if_neg a1).symm
        refine sA [] rfl ?_
        exact ev_out () rfl ⟨rfl, rfl, rfl, rfl, rfl, rfl, by rw [← e]; rfl, rfl, trivial⟩
    rintro _ w5 rfl
    obtain ⟨d, hdd⟩ : ∃ d, d = pd c := ⟨_, rfl⟩
    rw [← hdd] at hpd ⊢
    obtain ⟨hf', hhf⟩ : ∃ b, b = decide (n = 13 ∧ 12 ≤ d) := ⟨_, rfl⟩
    refine sC [] rfl ?_; refine sD [] rfl ?_
    refine ev_join1 (α := Unit) (fun _ => [(0, .pointer (some ⟨p, 0, none⟩)), (1, .bool low), (6, .int .i32 n), (7, .int .i64 k), (8, bv c), (9, .bool ok), (10, .int .i32 d), (11, .bool hf'), (12, .int .i64 k)]) (fun _ w' => w' = w5) ?_ ?_
    · by_cases n13 : n = 13
      · rw [show decide (n = 13) = true from decide_eq_true n13]
        refine sA [] rfl ?_
        exact ev_out () rfl ⟨rfl, rfl, rfl, rfl, rfl, rfl, rfl, by rw [hhf, show decide (n = 13 ∧ 12 ≤ d) = decide (12 ≤ d) from decide_eq_decide.2 ⟨fun h => h.2, fun h => ⟨n13, h⟩⟩]; rfl, rfl, trivial⟩
      · rw [show decide (n = 13) = false from decide_eq_false n13]
        refine sA [] rfl ?_
        exact ev_out () rfl ⟨rfl, rfl, rfl, rfl, rfl, rfl, rfl, by rw [hhf, show decide (n = 13 ∧ 12 ≤ d) = false from decide_eq_false fun z => n13 z.1]; rfl, rfl, trivial⟩
    rintro _ w6 rfl
    have hfb : fBad t low k n (q + k) ↔ (¬ q + k < t.length ∨ hx c < 0 ∨ (k = 0 ∧ low = true ∧ hx c ≠ 13) ∨ (k = 1 ∧ decide (n = 13 ∧ 12 ≤ hx c) ≠ low)) := by
      unfold fBad; rw [← hc]
    obtain ⟨bd, hbd⟩ : ∃ b, b = decide (fBad t low k n (q + k)) := ⟨_, rfl⟩
    have yes : fBad t low k n (q + k) → Value.bool true = Value.bool bd := fun h => by rw [hbd, decide_eq_true h]
    have no' : ¬ fBad t low k n (q + k) → Value.bool false = Value.bool bd := fun h => by rw [hbd, decide_eq_false h]
    rw [hfb] at yes no'
    refine sC [] rfl ?_; refine sD [] rfl ?_; refine sD [] rfl ?_
    refine ev_join1 (α := Unit) (fun _ => [(0, .pointer (some ⟨p, 0, none⟩)), (1, .bool low), (6, .int .i32 n), (10, .int .i32 d), (12, .int .i64 k), (76, .bool bd)]) (fun _ w' => w' = w6) ?_ ?_
    · have hk4 : k = 0 ∨ k = 1 ∨ k = 2 ∨ k = 3 := by omega
      cases ok with
      | false =>
        have lt : ¬ q + k < t.length := of_decide_eq_false hok.symm
        refine sA [] rfl ?_
        exact ev_out () rfl ⟨rfl, rfl, rfl, rfl, rfl, by rw [← yes (.inl lt)]; rfl, trivial⟩
      | true =>
        have lt : q + k < t.length := of_decide_eq_true hok.symm
        refine sC [] rfl ?_
        by_cases d0 : d < 0
        · rw [show decide (d < 0) = true from decide_eq_true d0]
          refine sA [] rfl ?_
          exact ev_out () rfl ⟨rfl, rfl, rfl, rfl, rfl, by rw [← yes (.inr (.inl (hpd.1.1.1 (.inl d0))))]; rfl, trivial⟩
        rw [show decide (d < 0) = false from decide_eq_false d0]
        refine sC [] rfl ?_
        by_cases c0 : c.toNat < 48
        · rw [show decide ((c.toNat : Int) < 48) = true from decide_eq_true (by omega)]
          refine sA [] rfl ?_
          exact ev_out () rfl ⟨rfl, rfl, rfl, rfl, rfl, by rw [← yes (.inr (.inl (hpd.1.1.1 (.inr (.inl c0)))))]; rfl, trivial⟩
        rw [show decide ((c.toNat : Int) < 48) = false from decide_eq_false (by omega)]
        refine sD [] rfl ?_; refine sD [] rfl ?_; refine sD [] rfl ?_
        by_cases c1 : 57 < c.toNat
        · rw [show decide ((57 : Int) < (c.toNat : Int)) = true from decide_eq_true (by omega)]
          refine sC [] rfl ?_; refine sD [] rfl ?_
          by_cases c2 : c.toNat < 65
          · rw [show decide ((c.toNat : Int) < 65) = true from decide_eq_true (by omega)]
            refine sA [] rfl ?_
            exact ev_out () rfl ⟨rfl, rfl, rfl, rfl, rfl, by rw [← yes (.inr (.inl (hpd.1.1.1 (.inr (.inr ⟨c1, c2⟩)))))]; rfl, trivial⟩
          rw [show decide ((c.toNat : Int) < 65) = false from decide_eq_false (by omega)]
          refine sD [] rfl ?_; refine sD [] rfl ?_; refine sD [] rfl ?_
          rcases hk4 with rfl | rfl | rfl | rfl <;> cases low
          · have hd : d = hx c := hpd.1.2 (by omega)
            refine sA [] rfl ?_
            exact ev_out () rfl ⟨rfl, rfl, rfl, rfl, rfl, by rw [← no' (by rintro (z | z | ⟨z, z2, z3⟩ | ⟨z, z2⟩); exact z lt; omega; cases z2; omega)]; rfl, trivial⟩
          · have hd : d = hx c := hpd.1.2 (by omega)
            refine sC [] rfl ?_; refine sC [] rfl ?_
            by_cases d1 : d = 13
            · rw [show decide (¬ d = 13) = false from decide_eq_false fun z => z d1]
              refine sA [] rfl ?_
              exact ev_out () rfl ⟨rfl, rfl, rfl, rfl, rfl, by rw [← no' (by rintro (z | z | ⟨z, z2, z3⟩ | ⟨z, z2⟩); exact z lt; omega; omega; omega)]; rfl, trivial⟩
            · rw [show decide (¬ d = 13) = true from decide_eq_true d1]
              refine sA [] rfl ?_
              exact ev_out () rfl ⟨rfl, rfl, rfl, rfl, rfl, by rw [← yes (.inr (.inr (.inl ⟨rfl, rfl, by omega⟩)))]; rfl, trivial⟩
          · have hd : d = hx c := hpd.1.2 (by omega)
            refine sC [] rfl ?_; refine sC [] rfl ?_; refine sC [] rfl ?_; refine sD [] rfl ?_
            cases hf' with
            | false =>
              have hx2 : decide (n = 13 ∧ 12 ≤ hx c) = false := by rw [← hd]; exact hhf.symm
              refine sA [] rfl ?_
              exact ev_out () rfl ⟨rfl, rfl, rfl, rfl, rfl, by rw [← no' (by rintro (z | z | ⟨z, z2, z3⟩ | ⟨z, z2⟩); exact z lt; omega; omega; exact z2 hx2)]; rfl, trivial⟩
            | true =>
              have hx2 : decide (n = 13 ∧ 12 ≤ hx c) = true := by rw [← hd]; exact hhf.symm
              refine sA [] rfl ?_
              exact ev_out () rfl ⟨rfl, rfl, rfl, rfl, rfl, by rw [← yes (.inr (.inr (.inr ⟨rfl, by rw [hx2]; decide⟩)))]; rfl, trivial⟩
          · have hd : d = hx c := hpd.1.2 (by omega)
            refine sC [] rfl ?_; refine sC [] rfl ?_; refine sC [] rfl ?_; refine sD [] rfl ?_
            cases hf' with
            | false =>
              have hx2 : decide (n = 13 ∧ 12 ≤ hx c) = false := by rw [← hd]; exact hhf.symm
              refine sA [] rfl ?_
              exact ev_out () rfl ⟨rfl, rfl, rfl, rfl, rfl, by rw [← yes (.inr (.inr (.inr ⟨rfl, by rw [hx2]; decide⟩)))]; rfl, trivial⟩
            | true =>
              have hx2 : decide (n = 13 ∧ 12 ≤ hx c) = true := by rw [← hd]; exact hhf.symm
              refine sA [] rfl ?_
              exact ev_out () rfl ⟨rfl, rfl, rfl, rfl, rfl, by rw [← no' (by rintro (z | z | ⟨z, z2, z3⟩ | ⟨z, z2⟩); exact z lt; omega; omega; exact z2 hx2)]; rfl, trivial⟩
          · have hd : d = hx c := hpd.1.2 (by omega)
            refine sA [] rfl ?_
            exact ev_out () rfl ⟨rfl, rfl, rfl, rfl, rfl, by rw [← no' (by rintro (z | z | ⟨z, z2, z3⟩ | ⟨z, z2⟩); exact z lt; omega; omega; omega)]; rfl, trivial⟩
          · have hd : d = hx c := hpd.1.2 (by omega)
            refine sA [] rfl ?_
            exact ev_out () rfl ⟨rfl, rfl, rfl, rfl, rfl, by rw [← no' (by rintro (z | z | ⟨z, z2, z3⟩ | ⟨z, z2⟩); exact z lt; omega; omega; omega)]; rfl, trivial⟩
          · have hd : d = hx c := hpd.1.2 (by omega)
            refine sA [] rfl ?_
            exact ev_out () rfl ⟨rfl, rfl, rfl, rfl, rfl, by rw [← no' (by rintro (z | z | ⟨z, z2, z3⟩ | ⟨z, z2⟩); exact z lt; omega; omega; omega)]; rfl, trivial⟩
          · have hd : d = hx c := hpd.1.2 (by omega)
            refine sA [] rfl ?_
            exact ev_out () rfl ⟨rfl, rfl, rfl, rfl, rfl, by rw [← no' (by rintro (z | z | ⟨z, z2, z3⟩ | ⟨z, z2⟩); exact z lt; omega; omega; omega)]; rfl, trivial⟩
        · rw [show decide ((57 : Int) < (c.toNat : Int)) = false from decide_eq_false (by omega)]
          refine sC [] rfl ?_; refine sC [] rfl ?_
          rcases hk4 with rfl | rfl | rfl | rfl <;> cases low
          · have hd : d = hx c := hpd.1.2 (by omega)
            refine sA [] rfl ?_
            exact ev_out () rfl ⟨rfl, rfl, rfl, rfl, rfl, by rw [← no' (by rintro (z | z | ⟨z, z2, z3⟩ | ⟨z, z2⟩); exact z lt; omega; cases z2; omega)]; rfl, trivial⟩
          · have hd : d = hx c := hpd.1.2 (by omega)
            refine sC [] rfl ?_; refine sC [] rfl ?_
            by_cases d1 : d = 13
            · rw [show decide (¬ d = 13) = false from decide_eq_false fun z => z d1]
              refine sA [] rfl ?_
              exact ev_out () rfl ⟨rfl, rfl, rfl, rfl, rfl, by rw [← no' (by rintro (z | z | ⟨z, z2, z3⟩ | ⟨z, z2⟩); exact z lt; omega; omega; omega)]; rfl, trivial⟩
            · rw [show decide (¬ d = 13) = true from decide_eq_true d1]
              refine sA [] rfl ?_
              exact ev_out () rfl ⟨rfl, rfl, rfl, rfl, rfl, by rw [← yes (.inr (.inr (.inl ⟨rfl, rfl, by omega⟩)))]; rfl, trivial⟩
          · have hd : d = hx c := hpd.1.2 (by omega)
            refine sC [] rfl ?_; refine sC [] rfl ?_; refine sC [] rfl ?_; refine sD [] rfl ?_
            cases hf' with
            | false =>
              have hx2 : decide (n = 13 ∧ 12 ≤ hx c) = false := by rw [← hd]; exact hhf.symm
              refine sA [] rfl ?_
              exact ev_out () rfl ⟨rfl, rfl, rfl, rfl, rfl, by rw [← no' (by rintro (z | z | ⟨z, z2, z3⟩ | ⟨z, z2⟩); exact z lt; omega; omega; exact z2 hx2)]; rfl, trivial⟩
            | true =>
              have hx2 : decide (n = 13 ∧ 12 ≤ hx c) = true := by rw [← hd]; exact hhf.symm
              refine sA [] rfl ?_
              exact ev_out () rfl ⟨rfl, rfl, rfl, rfl, rfl, by rw [← yes (.inr (.inr (.inr ⟨rfl, by rw [hx2]; decide⟩)))]; rfl, trivial⟩
          · have hd : d = hx c := hpd.1.2 (by omega)
            refine sC [] rfl ?_; refine sC [] rfl ?_; refine sC [] rfl ?_; refine sD [] rfl ?_
            cases hf' with
            | false =>
              have hx2 : decide (n = 13 ∧ 12 ≤ hx c) = false := by rw [← hd]; exact hhf.symm
              refine sA [] rfl ?_
              exact ev_out () rfl ⟨rfl, rfl, rfl, rfl, rfl, by rw [← yes (.inr (.inr (.inr ⟨rfl, by rw [hx2]; decide⟩)))]; rfl, trivial⟩
            | true =>
              have hx2 : decide (n = 13 ∧ 12 ≤ hx c) = true := by rw [← hd]; exact hhf.symm
              refine sA [] rfl ?_
              exact ev_out () rfl ⟨rfl, rfl, rfl, rfl, rfl, by rw [← no' (by rintro (z | z | ⟨z, z2, z3⟩ | ⟨z, z2⟩); exact z lt; omega; omega; exact z2 hx2)]; rfl, trivial⟩
          · have hd : d = hx c := hpd.1.2 (by omega)
            refine sA [] rfl ?_
            exact ev_out () rfl ⟨rfl, rfl, rfl, rfl, rfl, by rw [← no' (by rintro (z | z | ⟨z, z2, z3⟩ | ⟨z, z2⟩); exact z lt; omega; omega; omega)]; rfl, trivial⟩
          · have hd : d = hx c := hpd.1.2 (by omega)
            refine sA [] rfl ?_
            exact ev_out () rfl ⟨rfl, rfl, rfl, rfl, rfl, by rw [← no' (by rintro (z | z | ⟨z, z2, z3⟩ | ⟨z, z2⟩); exact z lt; omega; omega; omega)]; rfl, trivial⟩
          · have hd : d = hx c := hpd.1.2 (by omega)
            refine sA [] rfl ?_
            exact ev_out () rfl ⟨rfl, rfl, rfl, rfl, rfl, by rw [← no' (by rintro (z | z | ⟨z, z2, z3⟩ | ⟨z, z2⟩); exact z lt; omega; omega; omega)]; rfl, trivial⟩
          · have hd : d = hx c := hpd.1.2 (by omega)
            refine sA [] rfl ?_
            exact ev_out () rfl ⟨rfl, rfl, rfl, rfl, rfl, by rw [← no' (by rintro (z | z | ⟨z, z2, z3⟩ | ⟨z, z2⟩); exact z lt; omega; omega; omega)]; rfl, trivial⟩
    rintro _ w7 rfl
    refine ev_condD (p := bd = true) (by cases bd <;> rfl) (fun hb => ?_) (fun hb => ?_)
    · have hb := bad hF (of_decide_eq_true (hbd.symm.trans hb))
      refine sA [] rfl ?_
      exact ret2 (.inr rfl) rfl rfl rfl ⟨by rw [hb], by rw [hb]; exact h, hf⟩
    · have hnb : ¬ fBad t low k n (q + k) := fun z => hb (hbd.trans (decide_eq_true z))
      have hg := go h4 hF hnb
      rw [← hc] at hg
      rw [hfb] at hnb
      have hd : d = hx c := hpd.1.2 fun z => hnb (.inr (.inl (hpd.1.1.1 z)))
      have hd0 : 0 ≤ d := by have : ¬ hx c < 0 := fun z => hnb (.inr (.inl z)); omega
      have hbk : 16 * n + d ≤ bn (k + 1) := by
        have hk4 : k = 0 ∨ k = 1 ∨ k = 2 ∨ k = 3 := by omega
        rcases hk4 with rfl | rfl | rfl | rfl
        · have : n ≤ 0 := hn1
          show 16 * n + d ≤ 15
          omega
        · have : n ≤ 15 := hn1
          show 16 * n + d ≤ 255
          omega
        · have : n ≤ 255 := hn1
          show 16 * n + d ≤ 4095
          omega
        · have : n ≤ 4095 := hn1
          show 16 * n + d ≤ 65535
          omega
      refine sA [] rfl ?_; refine ev_arith rfl rfl rfl rfl rfl (by simp only [lowK, hiK]; omega) ?_; refine sA [] rfl ?_; refine ev_arith rfl rfl rfl rfl rfl (by simp only [lowK, hiK]; omega) ?_; refine sA [] rfl ?_; refine ev_loadB rfl rfl tabOk rfl rfl ‹_› (by rfl) ?_; refine ev_arith rfl rfl rfl rfl rfl (by simp only [lowK, hiK]; omega) ?_; refine sA [] rfl ?_
      refine ev_store tabOk rfl rfl rfl rfl rfl rfl h rfl (fun w8 h8 hf8 => ?_)
      have hf8 := hf.trans hf8 fun _ _ z => z
      clear h
      refine sA [] rfl ?_; refine ev_arith rfl rfl rfl rfl rfl (by simp only [lowK, hiK]; omega) ?_; refine sA [] rfl ?_
      exact ev_next (k + 1, 16 * n + d) (by simp only; omega) ⟨by simp only; omega, by simp only; omega, by rw [hd]; exact hg, by simp only; omega, hbk, h8, hf8⟩ ⟨rfl, rfl, rfl, rfl, trivial⟩
  · have h4 : k = 4 := by have : ¬ (k : Int) < 4 := h4; omega
    subst h4
    have hF : four t low q = (true, n, q + 4) := hF
    refine sA [] rfl ?_
    exact ret2 (.inr rfl) rfl rfl rfl ⟨by rw [hF], by rw [hF]; exact h, hf⟩
end Go.Wk.YtpnhfkmgnkdleaaDoor
