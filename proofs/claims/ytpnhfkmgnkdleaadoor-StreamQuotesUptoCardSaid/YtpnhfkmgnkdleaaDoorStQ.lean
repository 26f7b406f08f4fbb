/-
  The walks of chapter 14: handles, each call's contract in the document's words.
-/
import Derived.Test.YtpnhfkmgnkdleaaDoorStO
set_option linter.unusedVariables false
namespace Go.Wk.YtpnhfkmgnkdleaaDoor
open Go Go.Wk Go.Proofs Go.Lib

/-- blocks from B up to E -/
abbrev bet (B E : Nat) : Nat → Prop := fun b => B ≤ b ∧ b < E
/-- a handle beside the document's stream: none, or a stream in blocks from B up to E -/
def Hd (B E : Nat) (w : World) (x : Value) (D : DV) : Prop :=
  (x = .pointer none ∧ D.none = true ∧ D.met = -1 ∧ D.out = [] ∧ D.stops = []) ∨
    ∃ p v S, x = .pointer (some ⟨p, 0, none⟩) ∧ St w p v S ∧ Rel S D ∧ bet B E p ∧ ∀ g, v.ownBlock = some g → bet B E g
theorem Hd.fr {S : Nat → Prop} {B E : Nat} {w w' : World} {x : Value} {D : DV} (h : Hd B E w x D) (hf : Fr S w w') (hs : ∀ b, bet B E b → ¬ S b) : Hd B E w' x D := by
  rcases h with h | ⟨p, v, X, h1, h2, h3, h4, h5⟩
  · exact .inl h
  · exact .inr ⟨p, v, X, h1, h2.fr hf (hs p h4) (fun g hg => hs g (h5 g hg)), h3, h4, h5⟩
theorem Hd.fr0 {B E : Nat} {w w' : World} {x : Value} {D : DV} (h : Hd B E w x D) (hf : Fr no w w') : Hd B E w' x D := h.fr hf fun _ _ => id
theorem Hd.rel_stops {B E : Nat} {w : World} {x : Value} {D : DV} (h : Hd B E w x D) : D.stops.length ≤ 16 ∧ (∀ t ∈ D.stops, t.length ≤ 64) ∧ D.out.length ≤ 3 * D.all.length := by
  rcases h with ⟨_, _, _, h4, h5⟩ | ⟨p, v, X, h1, h2, h3, h4, h5⟩
  · rw [h4, h5]; exact ⟨by simp, by simp, by simp⟩
  · have := chk_0 h3.ok
    exact ⟨this.1, fun t ht => (this.2 t ht).2.1, h3.len⟩
theorem Rel.fit {S : SV} {D : DV} (h : Rel S D) (ha : D.all.length ≤ 100000000) : S.fit := by
  have := chk_0 h.ok
  have h1 := h.len
  have h2 := h.small
  refine ⟨fun t ht => ?_, by rw [h.stops]; omega, by omega, by rw [h.out]; omega⟩
  rw [h.stops] at ht
  have := (this.2 t ht).2.1
  omega
theorem Hd.leFeed {B E : Nat} {w : World} {x : Value} {D : DV} (h : Hd B E w x D) (piece : List UInt8) (ho : ¬ D.over) : D.out.length ≤ (clean (D.feedT piece)).length := by
  rcases h with ⟨_, h2, _⟩ | ⟨p, v, X, h1, h2, h3, h4, h5⟩
  · exact absurd (.inl h2) ho
  · obtain ⟨S', r, hF⟩ := feedR_ex X piece
    exact (rel_feed h3 hF).2.2 ho
theorem Hd.leEnd {B E : Nat} {w : World} {x : Value} {D : DV} (h : Hd B E w x D) (ho : ¬ D.over) : D.out.length ≤ (clean D.all).length := by
  rcases h with ⟨_, h2, _⟩ | ⟨p, v, X, h1, h2, h3, h4, h5⟩
  · exact absurd (.inl h2) ho
  · have hno : ¬ (X.done || X.ended) = true := fun g => ho (h3.over.1 g)
    exact (rel_end h3 (S' := _) (out := _) (by unfold EndR; rw [if_neg hno]; exact ⟨rfl, rfl⟩)).2.2 ho

theorem hFeed {B E : Nat} {w : World} {x : Value} {D : DV} (h : Hd B E w x D) (hB : 1 < B) (hT : UT w) (ha : D.all.length ≤ 100000000) (piece : List UInt8) (hp : piece.length ≤ 100000000) :
    CallsF Tryd.prog 23 [x, sv piece] w fun r w' => (r = sv (D.feedO piece) ∧ Hd B E w' x (D.feed piece)) ∧ Fr (bet B E) w w' := by
  rcases h with ⟨rfl, h2, h3, h4, h5⟩ | ⟨p, v, X, rfl, h2, h3, h4, h5⟩
  · refine (nFeed piece w).mono fun r w' hr => ?_
    obtain ⟨rfl, rfl⟩ := hr
    unfold DV.feedO DV.feed
    rw [if_pos (.inl h2), if_pos (.inl h2)]
    exact ⟨⟨rfl, .inl ⟨rfl, h2, h3, h4, h5⟩⟩, Fr.refl _ _⟩
  · refine (sFeed p v X piece w h2 (h3.fit ha) hp hT (by have := h4.1; omega) (fun g hg => by have := (h5 g hg).1; omega)).mono fun r w' hr => ?_
    obtain ⟨⟨S', out, rfl, hF, hS⟩, hf⟩ := hr
    obtain ⟨rfl, hR, _⟩ := rel_feed h3 hF
    exact ⟨⟨rfl, .inr ⟨p, v, S', rfl, hS, hR, h4, h5⟩⟩, hf.mono fun b _ e => by have : b = p := e; subst this; exact h4⟩
theorem hEnd {B E : Nat} {w : World} {x : Value} {D : DV} (h : Hd B E w x D) (hB : 1 < B) (hT : UT w) (ha : D.all.length ≤ 100000000) :
    CallsF Tryd.prog 27 [x] w fun r w' => (r = sv D.endO ∧ Hd B E w' x D.end) ∧ Fr (bet B E) w w' := by
  rcases h with ⟨rfl, h2, h3, h4, h5⟩ | ⟨p, v, X, rfl, h2, h3, h4, h5⟩
  · refine (nEnd w).mono fun r w' hr => ?_
    obtain ⟨rfl, rfl⟩ := hr
    unfold DV.endO DV.end
    rw [if_pos (.inl h2), if_pos (.inl h2)]
    exact ⟨⟨rfl, .inl ⟨rfl, h2, h3, h4, h5⟩⟩, Fr.refl _ _⟩
  · refine (sEnd p v X w h2 (h3.fit ha) hT (by have := h4.1; omega)).mono fun r w' hr => ?_
    obtain ⟨⟨S', out, rfl, hF, hS⟩, hf⟩ := hr
    obtain ⟨rfl, hR, _⟩ := rel_end h3 hF
    exact ⟨⟨rfl, .inr ⟨p, v, S', rfl, hS, hR, h4, h5⟩⟩, hf.mono fun b _ e => by have : b = p := e; subst this; exact h4⟩
theorem hText {B E : Nat} {w : World} {x : Value} {D : DV} (h : Hd B E w x D) : CallsF Tryd.prog 17 [x] w fun r w' => r = sv D.out ∧ w' = w := by
  rcases h with ⟨rfl, h2, h3, h4, h5⟩ | ⟨p, v, X, rfl, h2, h3, h4, h5⟩
  · rw [h4]; exact nText w
  · rw [← h3.out]; exact sText p v X w h2
theorem hHeld {B E : Nat} {w : World} {x : Value} {D : DV} (h : Hd B E w x D) : CallsF Tryd.prog 25 [x] w fun r w' => r = sv D.back ∧ w' = w := by
  rcases h with ⟨rfl, h2, h3, h4, h5⟩ | ⟨p, v, X, rfl, h2, h3, h4, h5⟩
  · refine (nHeld w).mono fun r w' hr => ?_
    unfold DV.back; rw [if_pos (.inl h2)]; exact hr
  · refine (sHeld p v X w h2).mono fun r w' hr => ?_
    obtain ⟨rfl, rfl⟩ := hr
    unfold DV.back
    by_cases ho : D.over
    · rw [if_pos ho, if_pos (h3.over.2 ho)]; exact ⟨rfl, rfl⟩
    · rw [if_neg ho, if_neg (fun g => ho (h3.over.1 g)), (h3.live ho).keep]; exact ⟨rfl, rfl⟩
theorem hStopped {B E : Nat} {w : World} {x : Value} {D : DV} (h : Hd B E w x D) : CallsF Tryd.prog 26 [x] w fun r w' => (∃ a b, r = .tuple #[.int .i64 a, .bool b] ∧ b = decide (0 ≤ D.met) ∧ a = if D.met < 0 then 0 else D.met) ∧ Fr no w w' := by
  rcases h with ⟨rfl, h2, h3, h4, h5⟩ | ⟨p, v, X, rfl, h2, h3, h4, h5⟩
  · refine (nStopped w).mono fun r w' hr => ?_
    obtain ⟨rfl, rfl⟩ := hr
    exact ⟨⟨0, false, rfl, (decide_eq_false (by omega)).symm, by rw [if_pos (by omega)]⟩, Fr.refl _ _⟩
  · refine (sStopped p v X w h2).mono fun r w' hr => ?_
    obtain ⟨rfl, hf⟩ := hr
    have hm := h3.met
    refine ⟨⟨_, _, rfl, ?_, ?_⟩, hf⟩
    · split at hm
      · rename_i hd; rw [hd]; exact (decide_eq_true hm.2).symm
      · rename_i hd
        have : X.done = false := by cases hh : X.done with
          | true => exact absurd hh hd
          | false => rfl
        rw [this]; exact (decide_eq_false (by omega)).symm
    · split at hm
      · rw [if_neg (by omega)]; exact hm.1.symm
      · rw [if_pos (by omega)]; exact hm.2
end Go.Wk.YtpnhfkmgnkdleaaDoor
