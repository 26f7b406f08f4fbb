/-
  The walk kit of this repo, part 18: first places; maps filled in a loop; parts of rows.
-/
import Derived.Test.YtjdfdahdobikmaaMaps
set_option linter.unusedVariables false
set_option linter.unusedSectionVars false
namespace Go.Wk
open Go

/-- the first place from a on where p holds, of k places; a + k: none -/
def fstP (p : Nat → Prop) [DecidablePred p] : Nat → Nat → Nat
  | a, 0 => a
  | a, k + 1 => if p a then a else fstP p (a + 1) k
theorem fstP_spec (p : Nat → Prop) [DecidablePred p] : ∀ k a, a ≤ fstP p a k ∧ fstP p a k ≤ a + k ∧ (∀ j, a ≤ j → j < fstP p a k → ¬ p j) ∧ (fstP p a k < a + k → p (fstP p a k))
  | 0, a => ⟨Nat.le_refl _, Nat.le_refl _, fun j h1 h2 => by simp only [fstP] at h2; omega, fun h => by simp only [fstP] at h; omega⟩
  | k + 1, a => by
    unfold fstP
    split
    · exact ⟨Nat.le_refl _, by omega, fun j h1 h2 => by omega, fun _ => by assumption⟩
    · rename_i hp
      obtain ⟨h1, h2, h3, h4⟩ := fstP_spec p k (a + 1)
      refine ⟨by omega, by omega, fun j h5 h6 => ?_, fun h => h4 (by omega)⟩
      by_cases e : j = a
      · subst e; exact hp
      · exact h3 j (by omega) h6
theorem fstP_of {p : Nat → Prop} [DecidablePred p] {a k n : Nat} (h1 : a ≤ n) (h2 : n ≤ a + k) (h3 : ∀ j, a ≤ j → j < n → ¬ p j) (h4 : n < a + k → p n) : fstP p a k = n := by
  obtain ⟨g1, g2, g3, g4⟩ := fstP_spec p k a
  rcases Nat.lt_trichotomy (fstP p a k) n with h | h | h
  · exact absurd (g4 (by omega)) (h3 _ g1 h)
  · exact h
  · exact absurd (h4 (by omega)) (g3 _ h1 h)
theorem fstP_at {p : Nat → Prop} [DecidablePred p] {k n : Nat} (h2 : n < k) (h3 : ∀ j, j < n → ¬ p j) (h4 : p n) : fstP p 0 k = n := fstP_of (Nat.zero_le _) (by omega) (fun j _ h => h3 j h) (fun _ => h4)
theorem fstP_no {p : Nat → Prop} [DecidablePred p] {k : Nat} (h3 : ∀ j, j < k → ¬ p j) : fstP p 0 k = k := fstP_of (Nat.zero_le _) (by omega) (fun j _ h => h3 j h) (fun h => by omega)

section
variable {α : Type} [DecidableEq α]
theorem getM_none : ∀ {m : List (α × Value)} {q : α}, getM m q = none ↔ ∀ p ∈ m, p.1 ≠ q
  | [], q => by simp [getM]
  | p :: r, q => by
    unfold getM
    by_cases h : p.1 = q
    · rw [if_pos h]; simp [h]
    · rw [if_neg h, getM_none]; simp [h]
theorem getM_some : ∀ {m : List (α × Value)} {q : α} {v : Value}, getM m q = some v → (q, v) ∈ m
  | [], q, v, h => by simp [getM] at h
  | p :: r, q, v, h => by
    unfold getM at h
    split at h
    · rename_i e; cases h; subst e; simp
    · exact List.mem_cons_of_mem _ (getM_some h)
/-- a map filled with one entry a round -/
def mapN (f : Nat → α) (g : Nat → Value) (k : Nat) : List (α × Value) := (List.range k).map fun i => (f i, g i)
theorem mapN_succ (f : Nat → α) (g : Nat → Value) (k : Nat) : mapN f g (k + 1) = mapN f g k ++ [(f k, g k)] := by unfold mapN; rw [List.range_succ, List.map_append]; rfl
theorem mapN_none {f : Nat → α} {g : Nat → Value} {k : Nat} {q : α} : getM (mapN f g k) q = none ↔ ∀ i, i < k → f i ≠ q := by
  rw [getM_none]
  unfold mapN
  simp
theorem mapN_some {f : Nat → α} {g : Nat → Value} {k : Nat} {q : α} {v : Value} (h : getM (mapN f g k) q = some v) : ∃ i, i < k ∧ f i = q ∧ v = g i := by
  have := getM_some h
  unfold mapN at this
  simp at this
  obtain ⟨i, h1, h2, h3⟩ := this
  exact ⟨i, h1, h2, h3.symm⟩
end

/-- a part of a row -/
theorem Cs.part {w : World} {b o : Nat} {xs ys : List Value} (h : Cs w (some ⟨b, o, none⟩) xs) (off : Nat) (hs : ∀ j u, ys[j]? = some u → xs[off + j]? = some u) : Cs w (some ⟨b, o + off, none⟩) ys := fun j u hj => by
  obtain ⟨b', o', e, hc⟩ := h _ _ (hs j u hj)
  cases e
  exact ⟨b, o + off, rfl, by rw [Nat.add_assoc]; exact hc⟩
end Go.Wk
