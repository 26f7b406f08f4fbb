/-
  Chapter 16: lengths of rows, shifts, one block of a model.
-/
import Derived.Test.YtfgllkflnkolhaaDoorShM
set_option linter.unusedVariables false
namespace Go.Wk.YtfgllkflnkolhaaDoor
open Go Go.Wk Go.Proofs

/-- all rows are so long -/
def longQ (n : Int) (l : List Rw) : Bool := l.all fun r => decide ((r.xs.length : Int) = n)
theorem longQ_take {n : Int} {l : List Rw} {i : Nat} (h : i < l.length) : longQ n (l.take (i + 1)) = (longQ n (l.take i) && decide ((l[i].xs.length : Int) = n)) := by
  unfold longQ; rw [List.take_succ_eq_append_getElem h, List.all_append]; simp
theorem longQ_bad {n : Int} {l : List Rw} {i : Nat} (h : i < l.length) (hb : ¬ (l[i].xs.length : Int) = n) : longQ n l = false := by
  unfold longQ; rw [List.all_eq_false]; exact ⟨l[i], List.getElem_mem h, by simpa using hb⟩
set_option maxHeartbeats 1000000 in
theorem wLong (n : Int) (A : Option Addr) (l : List Rw) (cap : Nat) (w : World) (hA : Cs w A (l.map Rw.v)) (hl : l.length ≤ 1000000) :
    CallsF Tryd.prog 89 [i64 n, .slice A l.length cap] w fun r w' => r = .bool (longQ n l) ∧ w' = w := by
  refine callsF Tryd.func89 rfl rfl (by decide) rfl ?_
  refine sA [] rfl ?_
  refine ev_loop (α := Nat) (fun y => [(0, i64 n), (7, .slice A l.length cap), (8, i64 l.length), (9, i64 y)]) (fun y w' => y ≤ l.length ∧ w' = w ∧ longQ n (l.take y) = true) (fun y => l.length - y) 0 ⟨rfl, rfl, rfl, rfl, trivial⟩ ⟨Nat.zero_le _, rfl, rfl⟩ ?_
  rintro i w' ⟨hi, rfl, hq⟩
  refine sC [] rfl ?_; refine sD [] rfl ?_
  refine ev_condD rfl (fun c => ?_) (fun c => ?_)
  · have hlt : i < l.length := by omega
    obtain ⟨g, o, rfl, hcell⟩ := hA i l[i].v (by simp [List.getElem?_eq_getElem hlt])
    refine sA [] rfl ?_
    refine ev_indexAddr rfl rfl tabOk rfl rfl rfl (by omega) (by omega) ?_
    rw [show o + (i : Int).toNat * 1 = o + i by omega]
    refine ev_load rfl rfl tabOk rfl rfl hcell ?_
    refine sC [] rfl ?_; refine sC [] rfl ?_; refine sD [] rfl ?_
    refine ev_condD rfl (fun c2 => ?_) (fun c2 => ?_)
    · refine sA [] rfl ?_
      exact ret1 (.inr rfl) rfl rfl ⟨by rw [longQ_bad hlt c2], rfl⟩
    · refine sA [] rfl ?_; refine ev_arith rfl rfl rfl rfl rfl (by simp only [lowK, hiK]; omega) ?_; refine sA [] rfl ?_
      refine ev_next (i + 1) (by omega) ⟨by omega, rfl, by rw [longQ_take hlt, hq]; simpa using c2⟩ ⟨rfl, rfl, rfl, by rw [show ((i + 1 : Nat) : Int) = (i : Int) + 1 by omega]; rfl, trivial⟩
  · obtain rfl : i = l.length := by omega
    refine sA [] rfl ?_
    exact ret1 (.inr rfl) rfl rfl ⟨by rw [List.take_length] at hq; rw [hq], rfl⟩

/-- the shifts are right -/
def shiftQ (l : List Int) : Bool := l.all fun x => decide (0 ≤ x ∧ x ≤ 31)
theorem wShift1 (x : Int) (w : World) : CallsF Tryd.prog 91 [i64 x] w fun r w' => r = .bool (!decide (0 ≤ x ∧ x ≤ 31)) ∧ w' = w := by
  refine callsF Tryd.func91 rfl rfl (by decide) rfl ?_
  refine sA [] rfl ?_
  refine ev_call rfl rfl rfl (wBetween x 0 31 w) ?_
  rintro r w1 ⟨rfl, rfl⟩
  refine sA [] rfl ?_
  exact ret1 (.inr rfl) rfl rfl ⟨rfl, rfl⟩
theorem shiftQ_take {l : List Int} {i : Nat} (h : i < l.length) : shiftQ (l.take (i + 1)) = (shiftQ (l.take i) && decide (0 ≤ l[i] ∧ l[i] ≤ 31)) := by
  unfold shiftQ; rw [List.take_succ_eq_append_getElem h, List.all_append]; simp
theorem shiftQ_bad {l : List Int} {i : Nat} (h : i < l.length) (hb : ¬ (0 ≤ l[i] ∧ l[i] ≤ 31)) : shiftQ l = false := by
  unfold shiftQ; rw [List.all_eq_false]; exact ⟨l[i], List.getElem_mem h, by simpa using hb⟩
set_option maxHeartbeats 1000000 in
theorem wIndexF (A : Option Addr) (l : List Int) (cap : Nat) (w : World) (hA : Cs w A (l.map i64)) (hl : l.length ≤ 1000000) :
    CallsF Tryd.prog 106 [.slice A l.length cap, .func (.func 91) #[] #[]] w fun r w' => (∃ i : Int, r = i64 i ∧ shiftQ l = !decide (i ≥ 0)) ∧ w' = w := by
  refine callsF Tryd.func106 rfl rfl (by decide) rfl ?_
  refine sA [] rfl ?_
  refine ev_loop (α := Nat) (fun y => [(0, .slice A l.length cap), (1, .func (.func 91) #[] #[]), (7, i64 l.length), (8, i64 y)]) (fun y w' => y ≤ l.length ∧ w' = w ∧ shiftQ (l.take y) = true) (fun y => l.length - y) 0 ⟨rfl, rfl, rfl, rfl, trivial⟩ ⟨Nat.zero_le _, rfl, rfl⟩ ?_
  rintro i w' ⟨hi, rfl, hq⟩
  refine sC [] rfl ?_; refine sD [] rfl ?_
  refine ev_condD rfl (fun c => ?_) (fun c => ?_)
  · have hlt : i < l.length := by omega
    obtain ⟨g, o, rfl, hcell⟩ := hA i (i64 l[i]) (by simp [List.getElem?_eq_getElem hlt])
    refine sA [] rfl ?_
    refine ev_indexAddr rfl rfl tabOk rfl rfl rfl (by omega) (by omega) ?_
    rw [show o + (i : Int).toNat * 1 = o + i by omega]
    refine ev_load rfl rfl tabOk rfl rfl hcell ?_
    refine ev_callV rfl (fun t h => by cases h; rfl) rfl rfl (wShift1 l[i] _) (fun r w4 hr => ?_)
    obtain ⟨rfl, rfl⟩ := hr
    refine sD [] rfl ?_
    by_cases c2 : 0 ≤ l[i] ∧ l[i] ≤ 31
    · rw [show (!decide (0 ≤ l[i] ∧ l[i] ≤ 31)) = false by rw [decide_eq_true c2]; rfl]
      refine sA [] rfl ?_; refine ev_arith rfl rfl rfl rfl rfl (by simp only [lowK, hiK]; omega) ?_; refine sA [] rfl ?_
      refine ev_next (i + 1) (by omega) ⟨by omega, rfl, by rw [shiftQ_take hlt, hq]; simpa using c2⟩ ⟨rfl, rfl, rfl, by rw [show ((i + 1 : Nat) : Int) = (i : Int) + 1 by omega]; rfl, trivial⟩
    · rw [show (!decide (0 ≤ l[i] ∧ l[i] ≤ 31)) = true by rw [decide_eq_false c2]; rfl]
      refine sA [] rfl ?_
      exact ret1 (.inr rfl) rfl rfl ⟨⟨(i : Int), rfl, by rw [shiftQ_bad hlt c2, decide_eq_true (show (i : Int) ≥ 0 by omega)]; rfl⟩, rfl⟩
  · obtain rfl : i = l.length := by omega
    refine sA [] rfl ?_
    exact ret1 (.inr rfl) rfl rfl ⟨⟨-1, rfl, by rw [List.take_length] at hq; rw [hq]; rfl⟩, rfl⟩
theorem wShifts (A : Option Addr) (l : List Int) (cap : Nat) (w : World) (hA : Cs w A (l.map i64)) (hl : l.length ≤ 1000000) :
    CallsF Tryd.prog 70 [.slice A l.length cap] w fun r w' => r = .bool (shiftQ l) ∧ w' = w := by
  have hC : CallsF Tryd.prog 90 [.slice A l.length cap, .func (.func 91) #[] #[]] w fun r w' => r = .bool (!shiftQ l) ∧ w' = w := by
    refine callsF Tryd.func90 rfl rfl (by decide) rfl ?_
    refine sA [] rfl ?_
    refine ev_call rfl rfl rfl (wIndexF A l cap w hA hl) ?_
    rintro r w1 ⟨⟨i, rfl, hi⟩, rfl⟩
    refine sA [] rfl ?_
    exact ret1 (.inr rfl) rfl rfl ⟨by rw [hi]; simp, rfl⟩
  refine callsF Tryd.func70 rfl rfl (by decide) rfl ?_
  refine sA [] rfl ?_
  refine ev_call rfl rfl rfl hC ?_
  rintro r w1 ⟨rfl, rfl⟩
  refine sA [] rfl ?_
  exact ret1 (.inr rfl) rfl rfl ⟨by simp, rfl⟩
end Go.Wk.YtfgllkflnkolhaaDoor
