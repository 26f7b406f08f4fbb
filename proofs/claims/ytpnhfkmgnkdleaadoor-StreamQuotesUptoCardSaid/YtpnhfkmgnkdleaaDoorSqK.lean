/-
  StreamUnquotes: the walk.
-/
import Derived.Test.YtpnhfkmgnkdleaaDoorSqI
import Derived.Test.YtpnhfkmgnkdleaaDoorStR
set_option linter.unusedVariables false
namespace Go.Wk.YtpnhfkmgnkdleaaDoor
open Go Go.Wk Go.Proofs

theorem lawUnquotes (t b : List UInt8) (w : World) (ht : t.length ≤ 100000000) (hb : b.length ≤ 100000000) (hT : UT w) :
    CallsF Tryd.prog 10 [sv t, sv b] w fun r w' => r = .bool true ∧ Fr no w w' := by
  refine callsF Tryd.func10 rfl rfl (by decide) rfl ?_
  refine sA [] rfl ?_
  refine ev_call rfl rfl rfl (lawAwake _ hT) (fun r w1 hr => ?_)
  obtain ⟨rfl, hf1⟩ := hr
  have hT1 := hT.fr0 hf1
  refine sA [] rfl ?_
  refine ev_call rfl rfl rfl (wUnquote t _ (by omega) hT1) (fun r w2 hr => ?_)
  obtain ⟨rfl, hf2⟩ := hr
  have hT2 := hT1.fr0 hf2
  have hf2 := hf1.tr hf2
  by_cases hg : (unqF t).1 = true
  · have hE : unqR t = [.string (sOf (unqF t).2.1), .int .i64 0, .int .i64 0] := if_pos hg
    have hcl := unqF_clean hg
    have hlen : (unqF t).2.1.length ≤ 10000000000 := by
      have key : ∀ (f : Nat) {q : Nat} {out : List UInt8}, q ≤ t.length → out.length ≤ 4 * q → (readF f t q out).2.1.length ≤ 4 * t.length := fun f => by
        induction f with
        | zero => intro q out _ _; exact Nat.zero_le _
        | succ f ih =>
          intro q out hq ho
          unfold readF
          split
          · exact Nat.zero_le _
          rename_i h1
          split
          · exact Nat.zero_le _
          split
          · split
            · exact Nat.zero_le _
            · simp only; omega
          split
          · rename_i h4
            obtain ⟨a, b, c⟩ := oneF_good (Decidable.not_not.1 h1) h4
            exact ih b (by rw [List.length_append]; omega)
          · exact Nat.zero_le _
      unfold unqF
      split
      · rename_i z
        have := key (t.length + 1) (q := 1) (out := []) z.1 (Nat.zero_le _)
        omega
      · exact Nat.zero_le _
    obtain ⟨s, hs⟩ : ∃ s, s = (unqF t).2.1 := ⟨_, rfl⟩
    rw [← hs] at hE hcl hlen
    rw [hE]
    refine sA [] rfl ?_
    refine ev_call rfl rfl rfl (refUnquote t _ (by omega)) (fun r w3 hr => ?_)
    obtain ⟨rfl, hf3⟩ := hr
    rw [hE]
    have hT3 := hT2.fr0 hf3
    have hf3 := hf2.tr hf3
    refine sC [] rfl ?_; refine sC [] rfl ?_; refine sC [] rfl ?_; refine sD [] rfl ?_; refine sD [] rfl ?_; refine sD [] rfl ?_
    rw [show decide (¬ s = s) = false from decide_eq_false fun z => z rfl]
    refine sA [] rfl ?_
    refine ev_call rfl rfl rfl (wClean s _ (by omega) hT3) (fun r w4 hr => ?_)
    obtain ⟨rfl, hf4⟩ := hr
    rw [hcl]
    have hf4 := hf3.tr hf4
    refine sA [] rfl ?_
    exact ret1 (.inr rfl) rfl rfl ⟨congrArg Value.bool (decide_eq_true rfl), hf4⟩
  · have hE : unqR t = [.string (sOf []), .int .i64 (unqF t).2.2, .int .i64 142] := if_neg hg
    have hg : (unqF t).1 = false := by simpa using hg
    have hp := unqF_le t
    have hag := unqF_agr (t := t) (b := b) hg
    obtain ⟨p, hp0⟩ : ∃ s, s = (unqF t).2.2 := ⟨_, rfl⟩
    rw [← hp0] at hE hp hag
    rw [hE]
    refine sA [] rfl ?_
    refine ev_call rfl rfl rfl (refUnquote t _ (by omega)) (fun r w3 hr => ?_)
    obtain ⟨rfl, hf3⟩ := hr
    rw [hE]
    have hT3 := hT2.fr0 hf3
    have hf3 := hf2.tr hf3
    refine sB [] rfl ?_; refine sD [] rfl ?_; refine sD [] rfl ?_; refine sD [] rfl ?_
    rw [show decide (¬ (p : Int) = (p : Int)) = false from decide_eq_false fun z => z rfl]
    refine sB [] rfl ?_; refine sD [] rfl ?_; refine sD [] rfl ?_
    refine ev_condD rfl (fun h1 => ?_) (fun h1 => ?_)
    · refine sA [] rfl ?_
      exact ret1 (.inr rfl) rfl rfl ⟨rfl, hf3⟩
    · have hag := hag (by omega)
      refine sA [] rfl ?_; refine ev_arith rfl rfl rfl rfl rfl (by simp only [lowK, hiK]; omega) ?_
      refine ev_sliceStr (s := t) (i := 0) rfl rfl tabOk rfl rfl rfl rfl (by omega) (by omega) (by omega) ?_
      rw [show ((p : Int) + 1).toNat = p + 1 by omega, show (0 : Int).toNat = 0 from rfl, List.drop_zero]
      have hl : (t.take (p + 1)).length = p + 1 := by rw [List.length_take]; omega
      refine sA [] rfl ?_
      refine ev_concat rfl rfl rfl rfl (by omega) ?_
      refine ev_call rfl rfl rfl (wUnquote (t.take (p + 1) ++ b) _ (by rw [List.length_append]; omega) hT3) (fun r w4 hr => ?_)
      obtain ⟨rfl, hf4⟩ := hr
      have hf4 := hf3.tr hf4
      have hE4 : unqR (t.take (p + 1) ++ b) = [.string (sOf []), .int .i64 p, .int .i64 142] := by unfold unqR; rw [hag]; rfl
      rw [hE4]
      refine sB [] rfl ?_; refine sD [] rfl ?_
      rw [show decide ((p : Int) = (p : Int)) = true from decide_eq_true rfl]
      refine sA [] rfl ?_
      exact ret1 (.inr rfl) rfl rfl ⟨rfl, hf4⟩
end Go.Wk.YtpnhfkmgnkdleaaDoor
