/-
  Chapter 14: a stream's handle and the document's stream, side by side.
-/
import Derived.Test.YtpnhfkmgnkdleaaDoorStN
set_option linter.unusedVariables false
namespace Go.Wk.YtpnhfkmgnkdleaaDoor
open Go Go.Wk Go.Proofs Go.Lib

theorem isB_ex (stops : List (List UInt8)) (s : List UInt8) (k : Nat) : ∃ b, IsB stops s k b := by
  have key : ∀ N, (∀ m, BPk stops s k m → m ≤ N) → ∃ b, IsB stops s k b := by
    intro N
    induction N with
    | zero => exact fun h => ⟨0, fun h0 => by omega, h⟩
    | succ N ih =>
      intro h
      by_cases hB : BPk stops s k (N + 1)
      · exact ⟨N + 1, fun _ => hB, h⟩
      · refine ih fun m hm => ?_
        have := h m hm
        by_cases e : m = N + 1
        · subst e; exact absurd hm hB
        · omega
  refine key s.length fun m hm => ?_
  obtain ⟨_, j, _, _, h, _⟩ := hm
  exact h
theorem feedR_ex (S : SV) (piece : List UInt8) : ∃ S' r, FeedR S piece S' r := by
  unfold FeedR
  by_cases hd : (S.done || S.ended) = true
  · refine ⟨S, [], ?_⟩
    rw [if_pos hd]; exact ⟨rfl, rfl⟩
  · obtain ⟨h1, h2, h3, h4⟩ := fst_spec (fun n => 0 ≤ stpA S.stops ((S.raw ++ piece).take n)) ((S.raw ++ piece).length - S.raw.length) (S.raw.length + 1)
    have hl : (S.raw ++ piece).length = S.raw.length + piece.length := List.length_append
    by_cases hc : fst (fun n => 0 ≤ stpA S.stops ((S.raw ++ piece).take n)) (S.raw.length + 1) ((S.raw ++ piece).length - S.raw.length) < S.raw.length + 1 + ((S.raw ++ piece).length - S.raw.length)
    · exact ⟨_, _, Eq.mpr (if_neg hd) (.inl ⟨_, by omega, by omega, fun m g1 g2 => by have := h3 m (by omega) g2; omega, h4 hc, rfl, rfl⟩)⟩
    · obtain ⟨b, hb⟩ := isB_ex S.stops (S.raw ++ piece) S.stops.length
      exact ⟨_, _, Eq.mpr (if_neg hd) (.inr ⟨fun m g1 g2 => by have := h3 m (by omega) (by omega); omega, b, hb, rfl, rfl⟩)⟩

/-- the program's stream and the document's -/
structure Rel (S : SV) (D : DV) : Prop where
  stops : S.stops = D.stops
  ok : chk D.stops = 0
  some : D.none = false
  out : S.out = D.out
  met : if S.done = true then D.met = S.met ∧ 0 ≤ D.met else D.met = -1 ∧ S.met = 0
  over : (S.done || S.ended) = true ↔ D.over
  live : ¬ D.over → Live D.stops D.all S.raw D.out
  len : D.out.length ≤ 3 * D.all.length
  small : S.raw.length ≤ 64

theorem live_out {stops : List (List UInt8)} {all raw out : List UInt8} (h : Live stops all raw out) : out.length ≤ 3 * all.length := by
  rw [h.out]
  have := clean_len (all.take (all.length - raw.length))
  rw [List.length_take] at this
  omega

theorem rel_feed {S : SV} {D : DV} (h : Rel S D) {piece out : List UInt8} {S' : SV} (hF : FeedR S piece S' out) : out = D.feedO piece ∧ Rel S' (D.feed piece) ∧ (¬ D.over → D.out.length ≤ (clean (D.feedT piece)).length) := by
  have hok := (chk_0 h.ok).2
  unfold FeedR at hF
  by_cases ho : D.over
  · rw [if_pos (h.over.2 ho)] at hF
    obtain ⟨rfl, rfl⟩ := hF
    unfold DV.feedO DV.feed
    rw [if_pos ho, if_pos ho]
    exact ⟨rfl, h, fun g => absurd ho g⟩
  · have hno : ¬ (S.done || S.ended) = true := fun g => ho (h.over.1 g)
    rw [if_neg hno] at hF
    have hL := h.live ho
    have hd : S.done = false := by cases hh : S.done with
      | true => exact absurd (by rw [hh]; rfl) hno
      | false => rfl
    have he : S.ended = false := by cases hh : S.ended with
      | true => exact absurd (by rw [hh]; simp) hno
      | false => rfl
    have hDe : D.ended = false := by cases hh : D.ended with
      | true => exact absurd (.inr (.inl hh)) ho
      | false => rfl
    unfold DV.feedO DV.feed
    rw [if_neg ho, if_neg ho]
    obtain ⟨stops, raw, sout, met, done, ended⟩ := S
    obtain ⟨none, dstops, all, dout, dmet, dended⟩ := D
    obtain ⟨h1, h2, h3, h4, h5, h6, h7, h8, h9⟩ := h
    simp only at h1 h2 h3 h4 h5 h6 h8 h9 hL hd he hDe hF hok
    subst h1 h3 h4 hd he hDe
    rcases hF with ⟨n, g1, g2, g3, g4, g5, g6⟩ | ⟨g1, b, g2, g3, g4⟩
    · obtain ⟨m1, m2⟩ := hL.meets hok g1 g2 g3 g4
      have hT : DV.feedT ⟨false, stops, all, sout, dmet, false⟩ piece = cutT stops (all ++ piece) := by unfold DV.feedT; simp only; rw [if_neg (by rw [m1]; omega)]
      rw [← g5] at m2
      refine ⟨?_, ?_, fun _ => ?_⟩
      · rw [hT, m2, List.drop_left]
      · rw [g6, hT, m2, List.drop_left, m1]
        refine ⟨rfl, h2, rfl, rfl, ?_, ?_, ?_, ?_, ?_⟩
        · simp only [if_true]; exact ⟨trivial, g4⟩
        · exact ⟨fun _ => .inr (.inr g4), fun _ => rfl⟩
        · exact fun g => absurd (.inr (.inr g4)) g
        · simp only
          rw [← m2]
          have h1 := clean_len (cutT stops (all ++ piece))
          have h2 := cutT_le stops (all ++ piece)
          omega
        · simp
      · rw [hT, m2, List.length_append]; simp only; omega
    · obtain ⟨m1, m2, m3, m4⟩ := hL.goesOn hok g1 g2
      have hlo := live_out m4
      have hT : DV.feedT ⟨false, stops, all, sout, dmet, false⟩ piece = (all ++ piece).take ((all ++ piece).length - max (hlf (raw ++ piece)) b) := by unfold DV.feedT; simp only; rw [if_pos (by rw [m1]; omega), m2, m3]
      have hC : clean (DV.feedT ⟨false, stops, all, sout, dmet, false⟩ piece) = sout ++ out := by
        have e := m4.out
        rw [hT, g3]
        have e2 : ((raw ++ piece).drop ((raw ++ piece).length - max (hlf (raw ++ piece)) b)).length = max (hlf (raw ++ piece)) b := by
          have := g2.le; have := hlf_le (raw ++ piece); rw [List.length_drop]; omega
        rw [e2] at e
        exact e.symm
      refine ⟨?_, ?_, fun _ => ?_⟩
      · rw [hC, List.drop_left]
      · rw [g4, hC, List.drop_left, m1]
        have hover : ¬ DV.over ⟨false, stops, all ++ piece, sout ++ out, -1, false⟩ := by
          rintro (g | g | g)
          · cases g
          · cases g
          · simp only at g; omega
        refine ⟨rfl, h2, rfl, rfl, ?_, ?_, ?_, ?_, ?_⟩
        · simp only [Bool.false_eq_true, if_false]
          simp only [Bool.false_eq_true, if_false] at h5
          exact ⟨trivial, h5.2⟩
        · exact ⟨fun g => by simp at g, fun g => absurd g hover⟩
        · rw [← g3] at m4
          exact fun _ => m4
        · rw [← g3] at hlo; exact hlo
        · have := held_le stops (all ++ piece)
          have e := m4.keep
          simp only
          rw [e]; exact this.1
      · rw [hC, List.length_append]; simp only; omega

theorem rel_end {S : SV} {D : DV} (h : Rel S D) {out : List UInt8} {S' : SV} (hF : EndR S S' out) : out = D.endO ∧ Rel S' D.end ∧ (¬ D.over → D.out.length ≤ (clean D.all).length) := by
  have hok := (chk_0 h.ok).2
  unfold EndR at hF
  by_cases ho : D.over
  · rw [if_pos (h.over.2 ho)] at hF
    obtain ⟨rfl, rfl⟩ := hF
    unfold DV.endO DV.end
    rw [if_pos ho, if_pos ho]
    refine ⟨rfl, ⟨h.stops, h.ok, h.some, h.out, h.met, ⟨fun _ => .inr (.inl rfl), fun _ => h.over.2 ho⟩, fun g => absurd (.inr (.inl rfl)) g, h.len, h.small⟩, fun g => absurd ho g⟩
  · have hno : ¬ (S.done || S.ended) = true := fun g => ho (h.over.1 g)
    rw [if_neg hno] at hF
    have hL := h.live ho
    have hd : S.done = false := by cases hh : S.done with
      | true => exact absurd (by rw [hh]; rfl) hno
      | false => rfl
    unfold DV.endO DV.end
    rw [if_neg ho, if_neg ho]
    have hC := hL.ends hok
    obtain ⟨rfl, rfl⟩ := hF
    have hmet := h.met
    rw [hd, if_neg (by simp)] at hmet
    refine ⟨?_, ?_, fun _ => ?_⟩
    · rw [hC, List.drop_left]
    · refine ⟨h.stops, h.ok, h.some, ?_, ?_, ?_, ?_, ?_, ?_⟩
      · simp only; rw [hC, List.drop_left, h.out]
      · simp only; rw [hd, if_neg (by simp)]; exact hmet
      · exact ⟨fun _ => .inr (.inl rfl), fun _ => by simp⟩
      · exact fun g => absurd (.inr (.inl rfl)) g
      · simp only
        rw [hC, List.drop_left, ← hC]
        exact clean_len _
      · simp
    · rw [hC, List.length_append]; omega

theorem rel_new {stops : List (List UInt8)} (h : chk stops = 0) : Rel (Go.Wk.YtpnhfkmgnkdleaaDoor.fresh stops) (DV.make stops) := by
  have hok := (chk_0 h).2
  unfold DV.make fresh
  rw [if_pos h]
  have hover : ¬ DV.over ⟨false, stops, [], [], -1, false⟩ := by
    rintro (g | g | g)
    · cases g
    · cases g
    · simp only at g; omega
  exact ⟨rfl, h, rfl, rfl, by simp, ⟨fun g => by simp at g, fun g => absurd g hover⟩, fun _ => live0 hok, by simp, by simp⟩
end Go.Wk.YtpnhfkmgnkdleaaDoor
