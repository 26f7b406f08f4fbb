/-
  The walks of chapter 14: whether the program answers; a stream begun.
-/
import Derived.Test.YtpnhfkmgnkdleaaDoorStQ
set_option linter.unusedVariables false
namespace Go.Wk.YtpnhfkmgnkdleaaDoor
open Go Go.Wk Go.Proofs Go.Lib

def cleanF : Nat → List UInt8 → List UInt8
  | 0, _ => []
  | n + 1, l => if l = [] then [] else (if good l then l.take (wid l) else repl) ++ cleanF n (l.drop (wid l))
theorem clean_F : ∀ (n : Nat) (l : List UInt8), l.length ≤ n → clean l = cleanF n l
  | 0, l, h => by
    have : l = [] := List.eq_nil_of_length_eq_zero (by omega)
    subst this; rw [clean_nil]; rfl
  | n + 1, l, h => by
    unfold cleanF
    by_cases h0 : l = []
    · rw [if_pos h0, h0, clean_nil]
    · have hp := List.length_pos_iff.2 h0
      have := wid_pos l
      rw [if_neg h0, clean_cons hp, clean_F n _ (by rw [List.length_drop]; omega)]

/-- the stop text that `awake` asks with -/
def STOP : List (List UInt8) := [[83, 84, 79, 80]]
theorem stop_chk : chk STOP = 0 := by
  unfold chk
  rw [if_neg (by decide), if_pos]
  intro x hx
  simp only [STOP, List.mem_singleton] at hx
  subst hx
  exact ⟨by simp, by decide, by rw [clean_F 4 _ (by decide)]; decide +kernel⟩
theorem stop_make : DV.make STOP = ⟨false, STOP, [], [], -1, false⟩ := by unfold DV.make; rw [if_pos stop_chk]
theorem stop_1 : DV.feedO ⟨false, STOP, [], [], -1, false⟩ [97, 226, 130] = [97] ∧ DV.feed ⟨false, STOP, [], [], -1, false⟩ [97, 226, 130] = ⟨false, STOP, [97, 226, 130], [97], -1, false⟩ := by
  have hT : DV.feedT ⟨false, STOP, [], [], -1, false⟩ [97, 226, 130] = [97] := by decide +kernel
  have hM : cutM STOP [97, 226, 130] = -1 := by decide +kernel
  have hC : clean [97] = [97] := by rw [clean_F 1 _ (by decide)]; decide +kernel
  unfold DV.feedO DV.feed
  rw [if_neg (by decide), if_neg (by decide), hT, hC]
  refine ⟨rfl, ?_⟩
  simp only [List.nil_append, hM, List.length_nil, List.drop_zero]
theorem stop_2 : DV.back ⟨false, STOP, [97, 226, 130], [97], -1, false⟩ = [226, 130] := by decide +kernel
theorem stop_3 : DV.feedO ⟨false, STOP, [97, 226, 130], [97], -1, false⟩ [172, 32, 83, 84] = [226, 130, 172, 32] := by
  have hT : DV.feedT ⟨false, STOP, [97, 226, 130], [97], -1, false⟩ [172, 32, 83, 84] = [97, 226, 130, 172, 32] := by decide +kernel
  have hC : clean [97, 226, 130, 172, 32] = [97, 226, 130, 172, 32] := by rw [clean_F 5 _ (by decide)]; decide +kernel
  unfold DV.feedO
  rw [if_neg (by decide), hT, hC]
  rfl

theorem newHd {w w' : World} {stops : List (List UInt8)} {x : Value} (h : NewR w w' stops x) : Hd w.heap.size w'.heap.size w' x (DV.make stops) := by
  rcases h with ⟨hc, p, v, rfl, hS, hp, hg⟩ | ⟨hc, rfl⟩
  · exact .inr ⟨p, v, _, rfl, hS, rel_new hc, ⟨hp, hS.lt⟩, fun g e => ⟨hg g e, Own.lt hS.2.1 e⟩⟩
  · unfold DV.make; rw [if_neg hc]; exact .inl ⟨rfl, rfl, rfl, rfl, rfl⟩

theorem lawAwake (w : World) (hT : UT w) : CallsF Tryd.prog 15 [] w fun r w' => r = .bool true ∧ Fr no w w' := by
  have hT1 := hT.lt
  refine callsF Tryd.func15 rfl rfl (by decide) rfl ?_
  refine sA [] rfl ?_
  refine ev_buildSlice tabOk rfl rfl rfl inf9 rfl rfl rfl (by simp [Value.cells]) rfl (fun q w1 hq hb1 hf1 => ?_)
  refine ev_call rfl rfl rfl (sNew (some ⟨q, 0, none⟩) 1 STOP _ (Cs.of_blk hb1) (by decide) (by decide) (hT.fr0 hf1)) (fun r w2 hr => ?_)
  obtain ⟨x, rfl, hN, hf2⟩ := hr
  have hH := newHd hN
  rw [stop_make] at hH
  rw [stop_chk]
  have hs1 := hf1.size
  have hT2 := (hT.fr0 hf1).fr0 hf2
  rcases hH with ⟨rfl, h2, _⟩ | hH
  · cases h2
  obtain ⟨p, v, S, rfl, hS, hR, hp, hg⟩ := hH
  have hH : Hd w1.heap.size w2.heap.size w2 (.pointer (some ⟨p, 0, none⟩)) ⟨false, STOP, [], [], -1, false⟩ := .inr ⟨p, v, S, rfl, hS, hR, hp, hg⟩
  have frs : ∀ {a b : World}, Fr (bet w1.heap.size w2.heap.size) a b → UT a → UT b := fun hf hT => hT.fr hf (fun e => by have := e.1; omega) (fun e => by have := e.1; omega)
  refine sA [] rfl ?_
  refine ev_call rfl rfl rfl (hFeed hH (by omega) hT2 (by simp) [97, 226, 130] (by simp)) (fun r w3 hr => ?_)
  obtain ⟨⟨rfl, hH3⟩, hf3⟩ := hr
  rw [stop_1.2] at hH3
  rw [stop_1.1]
  refine sA [] rfl ?_
  refine ev_call rfl rfl rfl (hHeld hH3) (fun r w4 hr => ?_)
  obtain ⟨rfl, rfl⟩ := hr
  rw [stop_2]
  refine sA [] rfl ?_
  refine ev_call rfl rfl rfl (hFeed hH3 (by omega) (frs hf3 hT2) (by simp) [172, 32, 83, 84] (by simp)) (fun r w5 hr => ?_)
  obtain ⟨⟨rfl, hH5⟩, hf5⟩ := hr
  rw [stop_3]
  refine sA [] rfl ?_
  exact ret1 (.inr rfl) rfl rfl ⟨rfl, (hf1.tr hf2).trans (hf3.trans hf5 (fun _ _ e => e)) (fun b hb e => by have := e.1; omega)⟩
end Go.Wk.YtpnhfkmgnkdleaaDoor
