/-
  The walks of chapter 14: four digits to the base 16 (printed by tool/mkfour.py).
-/
import Derived.Test.YtpnhfkmgnkdleaaDoorSqA
set_option linter.unusedVariables false
namespace Go.Wk.YtpnhfkmgnkdleaaDoor
open Go Go.Wk Go.Proofs

def bn : Nat → Int
  | 0 => 0
  | 1 => 15
  | 2 => 255
  | 3 => 4095
  | _ => 65535

set_option maxHeartbeats 2000000 in
theorem refFour (t : List UInt8) (low : Bool) (q : Nat) (w : World) (ht : t.length ≤ 9223372036854775000) (hq : q ≤ t.length) :
    CallsF Tryd.prog 64 [.string (sOf t), .int .i64 q, .bool low] w fun r w' => r = .tuple #[.int .i64 (four t low q).2.1, .int .i64 (if (four t low q).1 = true then -1 else (four t low q).2.2)] ∧ w' = w := by
  have bad : ∀ {k : Nat} {n : Int}, four t low q = fourF t low (3 - k + 1) k n (q + k) → fBad t low k n (q + k) → four t low q = (false, 0, q + k) := fun h hb => h.trans (fourF_bad hb)
  have go : ∀ {k : Nat} {n : Int}, k < 4 → four t low q = fourF t low (3 - k + 1) k n (q + k) → ¬ fBad t low k n (q + k) → four t low q = fourF t low (4 - (k + 1)) (k + 1) (16 * n + hx (t.getD (q + k) 0)) (q + (k + 1)) := fun {k} {n} hk h hb => by
    rw [show 4 - (k + 1) = 3 - k by omega]; exact h.trans (fourF_go hb)
  refine callsF Tryd.func64 rfl rfl (by decide) rfl ?_
  refine sA [] rfl ?_
  refine ev_loop (α := Nat × Int) (fun y => [(0, .string (sOf t)), (1, .int .i64 q), (2, .bool low), (8, .int .i64 y.2), (9, .int .i64 y.1)])
    (fun y w' => y.1 ≤ 4 ∧ q + y.1 ≤ t.length ∧ four t low q = fourF t low (4 - y.1) y.1 y.2 (q + y.1) ∧ 0 ≤ y.2 ∧ y.2 ≤ bn y.1 ∧ (low = true → y.1 = 1 → y.2 = 13) ∧ w' = w) (fun y => 4 - y.1) (0, 0) ⟨rfl, rfl, rfl, rfl, rfl, trivial⟩ ⟨Nat.zero_le _, hq, rfl, by decide, by decide, fun _ h => (by cases h), rfl⟩ ?_
  rintro ⟨k, n⟩ w' ⟨hk, hqk, hF, hn0, hn1, hl, rfl⟩
  simp only at hk hqk hF hn0 hn1 hl
  refine sC [] rfl ?_; refine sD [] rfl ?_; refine sD [] rfl ?_
  refine ev_condD rfl (fun h4 => ?_) (fun h4 => ?_)
  · have h4 : k < 4 := by have : (k : Int) < 4 := h4; omega
    rw [show 4 - k = 3 - k + 1 by omega] at hF
    refine sA [] rfl ?_; refine ev_arith rfl rfl rfl rfl rfl (by simp only [lowK, hiK]; omega) ?_; refine sC [] rfl ?_; refine sC [] rfl ?_; refine sD [] rfl ?_; refine sD [] rfl ?_
    refine ev_condD rfl (fun he => ?_) (fun he => ?_)
    · have hb := bad hF (show fBad t low k n (q + k) from .inl (by omega))
      refine sA [] rfl ?_
      exact ret2 (.inr rfl) rfl rfl rfl ⟨by rw [hb, show t.length = q + k by omega]; rfl, rfl⟩
    · have hlt : q + k < t.length := by omega
      refine sA [] rfl ?_; refine ev_index rfl rfl tabOk rfl rfl rfl (by omega) (by omega) ?_
      rw [show ((q : Int) + k).toNat = q + k by omega]
      refine ev_call rfl rfl rfl (refHex (t.getD (q + k) 0) _) (fun r w1 hr => ?_)
      obtain ⟨rfl, rfl⟩ := hr
      have hd := hx_le (t.getD (q + k) 0)
      obtain ⟨d, hdd⟩ : ∃ d, d = hx (t.getD (q + k) 0) := ⟨_, rfl⟩
      have go' := go h4 hF
      have bad' := bad hF
      rw [← hdd] at hd go' ⊢
      have hfb : fBad t low k n (q + k) ↔ (d < 0 ∨ (k = 0 ∧ low = true ∧ d ≠ 13) ∨ (k = 1 ∧ decide (n = 13 ∧ 12 ≤ d) ≠ low)) := by
        unfold fBad; rw [← hdd]; exact ⟨fun h => h.resolve_left (fun h => h hlt), .inr⟩
      rw [hfb] at bad' go'
      clear hfb bad go
      by_cases d0 : d < 0
      · have hb := bad' (.inl d0)
        refine sC [] rfl ?_; refine sC [] rfl ?_
        rw [show decide (d < 0) = true from decide_eq_true d0]
        refine sA [] rfl ?_
        exact ret2 (.inr rfl) rfl rfl rfl ⟨by rw [hb]; rfl, rfl⟩
      · have hk4 : k = 0 ∨ k = 1 ∨ k = 2 ∨ k = 3 := by omega
        rcases hk4 with rfl | rfl | rfl | rfl <;> cases low
        · have hn1 : n ≤ 0 := hn1
          refine sC [] rfl ?_; refine sC [] rfl ?_
          rw [show decide (d < 0) = false from decide_eq_false d0]
          refine sA [] rfl ?_; refine ev_arith rfl rfl rfl rfl rfl (by simp only [lowK, hiK]; omega) ?_; refine sA [] rfl ?_; refine ev_arith rfl rfl rfl rfl rfl (by simp only [lowK, hiK]; omega) ?_; refine sA [] rfl ?_; refine ev_arith rfl rfl rfl rfl rfl (by simp only [lowK, hiK]; omega) ?_; refine sA [] rfl ?_
          have hg := go' (by rintro (h | ⟨h, h2, _⟩ | ⟨h, _⟩) <;> first | omega | (cases h2; done) | (cases h; done))
          skip
          exact ev_next (1, 16 * n + d) (by simp only; omega) ⟨by simp only; omega, by simp only; omega, hg, by simp only; omega, by show 16 * n + d ≤ 15; omega, fun h => (by cases h), rfl⟩ ⟨rfl, rfl, rfl, rfl, rfl, trivial⟩
        · have hn1 : n ≤ 0 := hn1
          refine sC [] rfl ?_; refine sC [] rfl ?_
          rw [show decide (d < 0) = false from decide_eq_false d0]
          refine sC [] rfl ?_; refine sC [] rfl ?_; refine sD [] rfl ?_; refine sD [] rfl ?_; refine sD [] rfl ?_
          by_cases d1 : d = 13
          · rw [show decide (¬ d = 13) = false from decide_eq_false fun h => h d1]
            have hg := go' (by rintro (h | ⟨_, _, h⟩ | ⟨h, _⟩) <;> first | omega | exact h d1 | cases h)
            refine sA [] rfl ?_; refine ev_arith rfl rfl rfl rfl rfl (by simp only [lowK, hiK]; omega) ?_; refine sA [] rfl ?_; refine ev_arith rfl rfl rfl rfl rfl (by simp only [lowK, hiK]; omega) ?_; refine sA [] rfl ?_; refine ev_arith rfl rfl rfl rfl rfl (by simp only [lowK, hiK]; omega) ?_; refine sA [] rfl ?_
            exact ev_next (1, 16 * n + d) (by simp only; omega) ⟨by simp only; omega, by simp only; omega, hg, by simp only; omega, by show 16 * n + d ≤ 15; omega, fun _ h => (by simp only at h; omega), rfl⟩ ⟨rfl, rfl, rfl, rfl, rfl, trivial⟩
          · rw [show decide (¬ d = 13) = true from decide_eq_true d1]
            have hb := bad' (.inr (.inl ⟨rfl, rfl, d1⟩))
            refine sA [] rfl ?_
            exact ret2 (.inr rfl) rfl rfl rfl ⟨by rw [hb]; rfl, rfl⟩
        · have hn1 : n ≤ 15 := hn1
          refine sC [] rfl ?_; refine sC [] rfl ?_
          rw [show decide (d < 0) = false from decide_eq_false d0]
          refine sB [] rfl ?_; refine sC [] rfl ?_; refine sC [] rfl ?_; refine sC [] rfl ?_; refine sC [] rfl ?_
          by_cases d1 : n = 13
          · rw [show decide (n = 13) = true from decide_eq_true d1]
            refine sC [] rfl ?_; refine sD [] rfl ?_
            refine ev_condD rfl (fun d2 => ?_) (fun d2 => ?_)
            · have hb := bad' (.inr (.inr ⟨rfl, by rw [decide_eq_true (by omega)]; decide⟩))
              refine sA [] rfl ?_
              exact ret2 (.inr rfl) rfl rfl rfl ⟨by rw [hb]; rfl, rfl⟩
            · have hg := go' (by rintro (h | ⟨h, _⟩ | ⟨_, h⟩) <;> first | omega | exact h (decide_eq_false (by omega)) | cases h)
              refine sA [] rfl ?_; refine ev_arith rfl rfl rfl rfl rfl (by simp only [lowK, hiK]; omega) ?_; refine sA [] rfl ?_; refine ev_arith rfl rfl rfl rfl rfl (by simp only [lowK, hiK]; omega) ?_; refine sA [] rfl ?_; refine ev_arith rfl rfl rfl rfl rfl (by simp only [lowK, hiK]; omega) ?_; refine sA [] rfl ?_
              exact ev_next (2, 16 * n + d) (by simp only; omega) ⟨by simp only; omega, by simp only; omega, hg, by simp only; omega, by show 16 * n + d ≤ 255; omega, fun h => (by cases h), rfl⟩ ⟨rfl, rfl, rfl, rfl, rfl, trivial⟩
          · rw [show decide (n = 13) = false from decide_eq_false d1]
            have hg := go' (by rintro (h | ⟨h, _⟩ | ⟨_, h⟩) <;> first | omega | exact h (decide_eq_false (by omega)) | cases h)
            refine sA [] rfl ?_; refine ev_arith rfl rfl rfl rfl rfl (by simp only [lowK, hiK]; omega) ?_; refine sA [] rfl ?_; refine ev_arith rfl rfl rfl rfl rfl (by simp only [lowK, hiK]; omega) ?_; refine sA [] rfl ?_; refine ev_arith rfl rfl rfl rfl rfl (by simp only [lowK, hiK]; omega) ?_; refine sA [] rfl ?_
            exact ev_next (2, 16 * n + d) (by simp only; omega) ⟨by simp only; omega, by simp only; omega, hg, by simp only; omega, by show 16 * n + d ≤ 255; omega, fun h => (by cases h), rfl⟩ ⟨rfl, rfl, rfl, rfl, rfl, trivial⟩
        · have hn1 : n ≤ 15 := hn1
          refine sC [] rfl ?_; refine sC [] rfl ?_
          rw [show decide (d < 0) = false from decide_eq_false d0]
          refine sB [] rfl ?_; refine sC [] rfl ?_; refine sD [] rfl ?_
          have hn13 : n = 13 := hl rfl rfl
          by_cases d1 : d < 12
          · rw [show decide (d < 12) = true from decide_eq_true d1]
            have hb := bad' (.inr (.inr ⟨rfl, by rw [decide_eq_false (by omega)]; decide⟩))
            refine sA [] rfl ?_
            exact ret2 (.inr rfl) rfl rfl rfl ⟨by rw [hb]; rfl, rfl⟩
          · rw [show decide (d < 12) = false from decide_eq_false d1]
            have hg := go' (by rintro (h | ⟨h, _⟩ | ⟨_, h⟩) <;> first | omega | exact h (decide_eq_true (by omega)) | cases h)
            refine sA [] rfl ?_; refine ev_arith rfl rfl rfl rfl rfl (by simp only [lowK, hiK]; omega) ?_; refine sA [] rfl ?_; refine ev_arith rfl rfl rfl rfl rfl (by simp only [lowK, hiK]; omega) ?_; refine sA [] rfl ?_; refine ev_arith rfl rfl rfl rfl rfl (by simp only [lowK, hiK]; omega) ?_; refine sA [] rfl ?_
            exact ev_next (2, 16 * n + d) (by simp only; omega) ⟨by simp only; omega, by simp only; omega, hg, by simp only; omega, by show 16 * n + d ≤ 255; omega, fun _ h => (by simp only at h; omega), rfl⟩ ⟨rfl, rfl, rfl, rfl, rfl, trivial⟩
        · have hn1 : n ≤ 255 := hn1
          refine sC [] rfl ?_; refine sC [] rfl ?_
          rw [show decide (d < 0) = false from decide_eq_false d0]
          refine sA [] rfl ?_; refine ev_arith rfl rfl rfl rfl rfl (by simp only [lowK, hiK]; omega) ?_; refine sA [] rfl ?_; refine ev_arith rfl rfl rfl rfl rfl (by simp only [lowK, hiK]; omega) ?_; refine sA [] rfl ?_; refine ev_arith rfl rfl rfl rfl rfl (by simp only [lowK, hiK]; omega) ?_; refine sA [] rfl ?_
          have hg := go' (by rintro (h | ⟨h, h2, _⟩ | ⟨h, _⟩) <;> first | omega | (cases h2; done) | (cases h; done))
          skip
          exact ev_next (3, 16 * n + d) (by simp only; omega) ⟨by simp only; omega, by simp only; omega, hg, by simp only; omega, by show 16 * n + d ≤ 4095; omega, fun h => (by cases h), rfl⟩ ⟨rfl, rfl, rfl, rfl, rfl, trivial⟩
        · have hn1 : n ≤ 255 := hn1
          refine sC [] rfl ?_; refine sC [] rfl ?_
          rw [show decide (d < 0) = false from decide_eq_false d0]
          refine sA [] rfl ?_; refine ev_arith rfl rfl rfl rfl rfl (by simp only [lowK, hiK]; omega) ?_; refine sA [] rfl ?_; refine ev_arith rfl rfl rfl rfl rfl (by simp only [lowK, hiK]; omega) ?_; refine sA [] rfl ?_; refine ev_arith rfl rfl rfl rfl rfl (by simp only [lowK, hiK]; omega) ?_; refine sA [] rfl ?_
          have hg := go' (by rintro (h | ⟨h, h2, _⟩ | ⟨h, _⟩) <;> first | omega | (cases h2; done) | (cases h; done))
          skip
          exact ev_next (3, 16 * n + d) (by simp only; omega) ⟨by simp only; omega, by simp only; omega, hg, by simp only; omega, by show 16 * n + d ≤ 4095; omega, fun _ h => (by simp only at h; omega), rfl⟩ ⟨rfl, rfl, rfl, rfl, rfl, trivial⟩
        · have hn1 : n ≤ 4095 := hn1
          refine sC [] rfl ?_; refine sC [] rfl ?_
          rw [show decide (d < 0) = false from decide_eq_false d0]
          refine sA [] rfl ?_; refine ev_arith rfl rfl rfl rfl rfl (by simp only [lowK, hiK]; omega) ?_; refine sA [] rfl ?_; refine ev_arith rfl rfl rfl rfl rfl (by simp only [lowK, hiK]; omega) ?_; refine sA [] rfl ?_; refine ev_arith rfl rfl rfl rfl rfl (by simp only [lowK, hiK]; omega) ?_; refine sA [] rfl ?_
          have hg := go' (by rintro (h | ⟨h, h2, _⟩ | ⟨h, _⟩) <;> first | omega | (cases h2; done) | (cases h; done))
          skip
          exact ev_next (4, 16 * n + d) (by simp only; omega) ⟨by simp only; omega, by simp only; omega, hg, by simp only; omega, by show 16 * n + d ≤ 65535; omega, fun h => (by cases h), rfl⟩ ⟨rfl, rfl, rfl, rfl, rfl, trivial⟩
        · have hn1 : n ≤ 4095 := hn1
          refine sC [] rfl ?_; refine sC [] rfl ?_
          rw [show decide (d < 0) = false from decide_eq_false d0]
          refine sA [] rfl ?_; refine ev_arith rfl rfl rfl rfl rfl (by simp only [lowK, hiK]; omega) ?_; refine sA [] rfl ?_; refine ev_arith rfl rfl rfl rfl rfl (by simp only [lowK, hiK]; omega) ?_; refine sA [] rfl ?_; refine ev_arith rfl rfl rfl rfl rfl (by simp only [lowK, hiK]; omega) ?_; refine sA [] rfl ?_
          have hg := go' (by rintro (h | ⟨h, h2, _⟩ | ⟨h, _⟩) <;> first | omega | (cases h2; done) | (cases h; done))
          skip
          exact ev_next (4, 16 * n + d) (by simp only; omega) ⟨by simp only; omega, by simp only; omega, hg, by simp only; omega, by show 16 * n + d ≤ 65535; omega, fun _ h => (by simp only at h; omega), rfl⟩ ⟨rfl, rfl, rfl, rfl, rfl, trivial⟩
  · have h4 : k = 4 := by have : ¬ (k : Int) < 4 := h4; omega
    subst h4
    have hF : four t low q = (true, n, q + 4) := hF
    refine sA [] rfl ?_
    exact ret2 (.inr rfl) rfl rfl rfl ⟨by rw [hF]; rfl, rfl⟩
end Go.Wk.YtpnhfkmgnkdleaaDoor
