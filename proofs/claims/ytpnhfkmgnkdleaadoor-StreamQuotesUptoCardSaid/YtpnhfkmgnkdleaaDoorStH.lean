/-
  The walks of chapter 14: how much of a text's end begins a stop text.
-/
import Derived.Test.YtpnhfkmgnkdleaaDoorStG
set_option linter.unusedVariables false
namespace Go.Wk.YtpnhfkmgnkdleaaDoor
open Go Go.Wk Go.Proofs Go.Lib

/-- m letters at the end begin one of the first k stop texts, and are not all of it -/
def BPk (stops : List (List UInt8)) (s : List UInt8) (k m : Nat) : Prop := 0 < m ∧ ∃ j, j < k ∧ m < (stops.getD j []).length ∧ m ≤ s.length ∧ endsW s ((stops.getD j []).take m)
/-- the greatest such -/
def IsB (stops : List (List UInt8)) (s : List UInt8) (k n : Nat) : Prop := (0 < n → BPk stops s k n) ∧ ∀ m, BPk stops s k m → m ≤ n
theorem IsB.uniq {stops : List (List UInt8)} {s : List UInt8} {k n m : Nat} (h : IsB stops s k n) (h' : IsB stops s k m) : n = m := by
  have h1 : n ≤ m := by
    by_cases h0 : 0 < n
    · exact h'.2 _ (h.1 h0)
    · omega
  have h2 : m ≤ n := by
    by_cases h0 : 0 < m
    · exact h.2 _ (h'.1 h0)
    · omega
  omega
theorem IsB.zero (stops : List (List UInt8)) (s : List UInt8) : IsB stops s 0 0 := ⟨fun h => by omega, fun m h => by obtain ⟨_, j, hj, _⟩ := h; omega⟩
theorem IsB.le {stops : List (List UInt8)} {s : List UInt8} {k n : Nat} (h : IsB stops s k n) : n ≤ s.length := by
  by_cases h0 : 0 < n
  · obtain ⟨_, j, _, _, hl, _⟩ := h.1 h0; exact hl
  · omega
theorem IsB.succ {stops : List (List UInt8)} {s : List UInt8} {k n n' : Nat} (h : IsB stops s k n) (hle : n ≤ n') (hin : n < n' → n' < (stops.getD k []).length ∧ n' ≤ s.length ∧ endsW s ((stops.getD k []).take n'))
    (hout : ∀ m, n' < m → m < (stops.getD k []).length → m ≤ s.length → ¬ endsW s ((stops.getD k []).take m)) : IsB stops s (k + 1) n' := by
  refine ⟨fun h0 => ?_, fun m hm => ?_⟩
  · by_cases hlt : n < n'
    · obtain ⟨a, b, c⟩ := hin hlt
      exact ⟨h0, k, by omega, a, b, c⟩
    · have : n = n' := by omega
      subst this
      obtain ⟨_, j, hj, r⟩ := h.1 h0
      exact ⟨h0, j, by omega, r⟩
  · obtain ⟨h0, j, hj, r1, r2, r3⟩ := hm
    by_cases hjk : j = k
    · subst hjk
      by_cases hlt : n' < m
      · exact absurd r3 (hout m hlt r1 r2)
      · omega
    · have := h.2 m ⟨h0, j, by omega, r1, r2, r3⟩
      omega

theorem sBegun (p : Nat) (v : Value) (S : SV) (s : List UInt8) (w : World) (h : St w p v S) (hs : s.length ≤ 9223372036854775806) (hst : ∀ t ∈ S.stops, t.length ≤ 9223372036854775806) (hl : S.stops.length ≤ 1000000) :
    CallsF Tryd.prog 53 [.pointer (some ⟨p, 0, none⟩), sv s] w fun r w' => (∃ n : Nat, r = .int .i64 n ∧ IsB S.stops s S.stops.length n) ∧ w' = w := by
  obtain ⟨A, c, rfl, _, _⟩ := h.2.1.slice
  have c0 : w.cell? ⟨p, 0, none⟩ = some (.slice A S.stops.length c) := h.1.cell rfl
  refine callsF Tryd.func53 rfl rfl (by decide) rfl ?_
  refine sA [] rfl ?_; refine ev_load rfl rfl tabOk rfl rfl ‹_› ?_; refine sA [] rfl ?_
  refine ev_loop (α := Nat × Nat) (fun y => [(1, sv s), (5, .int .i64 y.2), (12, .slice A S.stops.length c), (13, .int .i64 S.stops.length), (14, .int .i64 y.1)])
    (fun y w' => y.1 ≤ S.stops.length ∧ IsB S.stops s y.1 y.2 ∧ w' = w) (fun y => S.stops.length - y.1) (0, 0) ⟨rfl, rfl, rfl, rfl, rfl, trivial⟩ ⟨Nat.zero_le _, IsB.zero _ _, rfl⟩ ?_
  rintro ⟨k, n0⟩ w1 ⟨hk, hB, rfl⟩
  simp only at hk hB
  refine sC [] rfl ?_; refine sD [] rfl ?_
  refine ev_condD rfl (fun hlt => ?_) (fun hlt => ?_)
  · simp only at hlt
    have hk1 : k < S.stops.length := by omega
    obtain ⟨g, c', e1, hc⟩ := own_str h.2.1 hk1
    cases e1
    have hx : S.stops.getD k [] ∈ S.stops := by
      rw [List.getD_eq_getElem?_getD, List.getElem?_eq_getElem hk1]; exact List.getElem_mem hk1
    have hxl := hst _ hx
    obtain ⟨x, hxx⟩ : ∃ x, x = S.stops.getD k [] := ⟨_, rfl⟩
    rw [← hxx] at hx hxl hc
    have hsucc := fun n' => hB.succ (n' := n')
    rw [← hxx] at hsucc
    obtain ⟨N, hN⟩ : ∃ N : Int, N = if (x.length : Int) - 1 < (s.length : Nat) then (x.length : Int) - 1 else (s.length : Nat) := ⟨_, rfl⟩
    have hN1 : N ≤ s.length ∧ N < x.length ∧ ∀ m : Nat, m < x.length → m ≤ s.length → (m : Int) ≤ N := by
      refine ⟨by split at hN <;> omega, by split at hN <;> omega, fun m h1 h2 => by split at hN <;> omega⟩
    refine sA [] rfl ?_
    refine ev_indexAddr rfl rfl tabOk rfl rfl rfl (by omega) (by omega) ?_
    refine ev_load rfl rfl tabOk rfl rfl ‹_› ?_; refine sA [] rfl ?_; refine ev_arith rfl rfl rfl rfl rfl (by simp only [lowK, hiK]; omega) ?_; refine sA [] rfl ?_
    rw [← hN]
    refine ev_loop (α := Int × Nat) (fun y => [(1, sv s), (5, .int .i64 y.2), (7, sv x), (8, .int .i64 y.1), (12, .slice (some ⟨g, 0, none⟩) S.stops.length c), (13, .int .i64 S.stops.length), (14, .int .i64 k)])
      (fun y w' => -1 ≤ y.1 ∧ y.1 ≤ N ∧ w' = w1 ∧ n0 ≤ y.2 ∧ (n0 < y.2 → y.1 < y.2 ∧ (y.2 : Int) ≤ N ∧ endsW s (x.take y.2)) ∧ ∀ m : Nat, (if n0 < y.2 then (y.2 : Int) else y.1) < m → (m : Int) ≤ N → ¬ endsW s (x.take m)) (fun y => (y.1 + 1).toNat) (N, n0) ⟨rfl, rfl, rfl, rfl, rfl, rfl, rfl, trivial⟩
      ⟨by simp only; split at hN <;> omega, Int.le_refl _, rfl, Nat.le_refl _, fun h => by simp only at h; omega, fun m h1 h2 => by simp only at h1 h2; rw [if_neg (by omega)] at h1; omega⟩ ?_
    rintro ⟨n, n1⟩ w2 ⟨hn1, hn2, rfl, hle, hfound, hno⟩
    simp only at hn1 hn2 hle hfound hno
    refine sC [] rfl ?_; refine sD [] rfl ?_; refine sD [] rfl ?_; refine sD [] rfl ?_
    refine ev_condD rfl (fun hgt => ?_) (fun hgt => ?_)
    · simp only at hgt
      have hnf : ¬ n0 < n1 := fun h => by have := (hfound h).1; omega
      have hn01 : n1 = n0 := by omega
      subst hn01
      rw [if_neg hnf] at hno
      obtain ⟨m, rfl⟩ := Int.eq_ofNat_of_zero_le (show 0 ≤ n by omega)
      refine sA [] rfl ?_
      refine ev_sliceStr (s := x) (i := 0) (j := m) rfl rfl tabOk rfl rfl rfl rfl (by omega) (by omega) (by omega) ?_
      rw [Int.toNat_natCast, show (0 : Int).toNat = 0 from rfl, List.drop_zero]
      refine ev_call rfl rfl rfl (hasSuffix s (x.take m) _ hs (by rw [List.length_take]; omega)) (fun q w3 hq => ?_)
      obtain ⟨rfl, rfl⟩ := hq
      refine ev_condD rfl (fun he => ?_) (fun he => ?_)
      · refine sA [] rfl ?_; refine ev_arith rfl rfl rfl rfl rfl (by simp only [lowK, hiK]; omega) ?_; refine sA [] rfl ?_
        exact ev_next ((m : Int) - 1, m) (by simp only; omega) ⟨by simp only; omega, by simp only; omega, rfl, by simp only; omega, fun _ => ⟨by simp only; omega, hn2, he⟩, fun q h1 h2 => by
          simp only at h1 h2
          rw [if_pos (by omega)] at h1
          exact hno q h1 h2⟩ ⟨rfl, rfl, rfl, rfl, rfl, rfl, rfl, trivial⟩
      · refine sA [] rfl ?_; refine ev_arith rfl rfl rfl rfl rfl (by simp only [lowK, hiK]; omega) ?_; refine sA [] rfl ?_
        exact ev_next ((m : Int) - 1, n1) (by simp only; omega) ⟨by simp only; omega, by simp only; omega, rfl, by simp only; omega, fun h => by simp only at h; omega, fun q h1 h2 => by
          simp only at h1 h2
          rw [if_neg (by omega)] at h1
          by_cases hq : q = m
          · subst hq; exact he
          · exact hno q (by omega) h2⟩ ⟨rfl, rfl, rfl, rfl, rfl, rfl, rfl, trivial⟩
    · simp only at hgt
      have hB' : IsB S.stops s (k + 1) n1 := by
        refine hsucc n1 hle (fun h => ?_) (fun m h1 h2 h3 => ?_)
        · obtain ⟨a, b, c⟩ := hfound h
          exact ⟨by omega, by omega, c⟩
        · refine hno m ?_ (hN1.2.2 m h2 h3)
          split
          · omega
          · omega
      refine sA [] rfl ?_; refine ev_arith rfl rfl rfl rfl rfl (by simp only [lowK, hiK]; omega) ?_; refine sA [] rfl ?_
      exact ev_next (k + 1, n1) (by simp only; omega) ⟨by simp only; omega, hB', rfl⟩ ⟨rfl, rfl, rfl, rfl, rfl, trivial⟩
  · simp only at hlt
    have hk' : k = S.stops.length := by omega
    subst hk'
    refine sA [] rfl ?_
    exact ret1 (.inr rfl) rfl rfl ⟨⟨n0, rfl, hB⟩, rfl⟩
end Go.Wk.YtpnhfkmgnkdleaaDoor
