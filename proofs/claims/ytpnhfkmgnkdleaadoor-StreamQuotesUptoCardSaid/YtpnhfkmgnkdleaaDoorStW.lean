/-
  The walks of chapter 14: the whole of a text at one time.
-/
import Derived.Test.YtpnhfkmgnkdleaaDoorStU
set_option linter.unusedVariables false
namespace Go.Wk.YtpnhfkmgnkdleaaDoor
open Go Go.Wk Go.Proofs Go.Lib

/-- a whole character, or the replacement's bytes, at the front -/
theorem clean_seg {seg y : List UInt8} (h1 : 0 < seg.length) (h2 : siz (seg.getD 0 0) = seg.length) (h3 : ∀ j, j < seg.length → goes seg j) : clean (seg ++ y) = seg ++ clean y := by
  have hf : fits (seg ++ y) = seg.length := fits_of (fun j hj => (goes_app hj).2 (h3 j hj)) (fun h => by
    have := h.2.1
    rw [getD_app h1] at this
    omega)
  have hg : good (seg ++ y) := ⟨by omega, by rw [getD_app h1]; omega⟩
  have hw : wid (seg ++ y) = seg.length := by unfold wid; rw [if_pos hg, hf]
  rw [clean_cons (by rw [List.length_append]; omega), if_pos hg, hw, List.take_left, List.drop_left]
theorem clean_repl (y : List UInt8) : clean (repl ++ y) = repl ++ clean y := clean_seg (by decide) (by decide) (by decide)
theorem clean_good {l y : List UInt8} (hg : good l) : clean (l.take (wid l) ++ y) = l.take (wid l) ++ clean y := by
  have hw : wid l = fits l := by unfold wid; rw [if_pos hg]
  have hle := (fits_le l).1
  have hp := hg.1
  have hlen : (l.take (wid l)).length = fits l := by rw [List.length_take, hw]; omega
  have h0 : (l.take (wid l)).getD 0 0 = l.getD 0 0 := by rw [List.getD_eq_getElem?_getD, List.getElem?_take, if_pos (by omega), List.getD_eq_getElem?_getD]
  refine clean_seg (by omega) (by rw [h0, hlen]; exact hg.2.symm) (fun j hj => ?_)
  have := (fits_spec l).1 j (by omega)
  have e : l = l.take (wid l) ++ l.drop (wid l) := (List.take_append_drop _ _).symm
  rw [e] at this
  exact (goes_app hj).1 this
theorem clean_clean (l : List UInt8) : clean (clean l) = clean l := by
  have key : ∀ (n : Nat) (l : List UInt8), l.length ≤ n → clean (clean l) = clean l := by
    intro n
    induction n with
    | zero => intro l h; rw [show l = [] from List.eq_nil_of_length_eq_zero (by omega), clean_nil, clean_nil]
    | succ n ih =>
      intro l h
      by_cases h0 : l = []
      · subst h0; rw [clean_nil, clean_nil]
      · have hp := List.length_pos_iff.2 h0
        have hw := wid_pos l
        have ih' := ih (l.drop (wid l)) (by rw [List.length_drop]; omega)
        rw [clean_cons hp]
        by_cases hg : good l
        · rw [if_pos hg, clean_good hg, ih']
        · rw [if_neg hg, clean_repl, ih']
  exact key _ l (Nat.le_refl _)

theorem rel_endOut {S : SV} {D : DV} (h : Rel S D) (ho : ¬ D.over) : D.end.out = clean D.all ∧ D.end.met = D.met ∧ cutM D.stops D.all = -1 ∧ cutT D.stops D.all = D.all := by
  have hok := (chk_0 h.ok).2
  have hL := h.live ho
  have hC := hL.ends hok
  have hN : cutN D.stops D.all = D.all.length + 1 := fst_of (by omega) (by omega) (fun j _ hj => by have := hL.no j (by omega); omega) (fun h => absurd h (by omega))
  have hM : cutM D.stops D.all = -1 := by unfold cutM; rw [hN, if_neg (by omega)]
  have hT : cutT D.stops D.all = D.all := by unfold cutT; rw [hN, if_neg (by omega)]
  refine ⟨?_, ?_, hM, hT⟩
  · unfold DV.end; rw [if_neg ho]; simp only; rw [hC, List.drop_left]
  · unfold DV.end; rw [if_neg ho]
/-- a piece at one time -/
theorem whole_plain {S : SV} {stops : List (List UInt8)} (hc : chk stops = 0) (h : Rel S (DV.make stops)) (s : List UInt8) : ((DV.make stops).feed s).end.out = clean (cutT stops s) ∧ ((DV.make stops).feed s).end.met = cutM stops s := by
  have hm : DV.make stops = ⟨false, stops, [], [], -1, false⟩ := by unfold DV.make; rw [if_pos hc]
  rw [hm] at h ⊢
  have hno : ¬ DV.over ⟨false, stops, [], [], -1, false⟩ := by
    rintro (g | g | g)
    · cases g
    · cases g
    · simp only at g; omega
  obtain ⟨S', r, hF⟩ := feedR_ex S s
  obtain ⟨_, hR, _⟩ := rel_feed h hF
  have hfe : DV.feed ⟨false, stops, [], [], -1, false⟩ s = ⟨false, stops, s, clean (DV.feedT ⟨false, stops, [], [], -1, false⟩ s), cutM stops s, false⟩ := by
    unfold DV.feed; rw [if_neg hno]; simp
  by_cases h0 : cutM stops s < 0
  · have ho : ¬ (DV.feed ⟨false, stops, [], [], -1, false⟩ s).over := by
      rw [hfe]
      rintro (g | g | g)
      · cases g
      · cases g
      · simp only at g; omega
    obtain ⟨e1, e2, e3, e4⟩ := rel_endOut hR ho
    rw [e1, e2]
    rw [hfe] at e4 ⊢
    simp only at e4 ⊢
    rw [e4]; exact ⟨rfl, trivial⟩
  · have ho : (DV.feed ⟨false, stops, [], [], -1, false⟩ s).over := by rw [hfe]; exact .inr (.inr (by simp only; omega))
    unfold DV.end
    rw [if_pos ho, hfe]
    simp only
    refine ⟨?_, trivial⟩
    unfold DV.feedT
    simp only [List.nil_append]
    rw [if_neg h0]

theorem sWhole (A : Option Addr) (c : Nat) (stops : List (List UInt8)) (s : List UInt8) (w : World) (hA : Cs w A (stops.map sv)) (hn : stops.length ≤ 100000000) (hst : ∀ t ∈ stops, t.length ≤ 100000000) (hs : s.length ≤ 10000000) (hT : UT w) :
    CallsF Tryd.prog 18 [.slice A stops.length c, sv s] w fun r w' => r = .tuple #[sv (if chk stops = 0 then clean (cutT stops s) else []), .int .i64 (if chk stops = 0 then cutM stops s else 0), .int .i64 (chk stops)] ∧ Fr no w w' := by
  have hT1 := hT.lt
  refine callsF Tryd.func18 rfl rfl (by decide) rfl ?_
  refine sA [] rfl ?_
  refine ev_call rfl rfl rfl (sNew A c stops _ hA hn hst hT) (fun r w1 hr => ?_)
  obtain ⟨x, rfl, hN, hf1⟩ := hr
  have hH := newHd hN
  have hz1 := hf1.size
  refine sC [] rfl ?_; refine sC [] rfl ?_; refine sC [] rfl ?_
  refine ev_condD rfl (fun h0 => ?_) (fun h0 => ?_)
  · have h0 : ¬ chk stops = 0 := fun e => h0 (by rw [e]; rfl)
    refine sA [] rfl ?_
    exact ret3 (.inr rfl) rfl rfl rfl rfl ⟨by rw [if_neg h0, if_neg h0], hf1⟩
  have h0 : chk stops = 0 := by
    have := Decidable.not_not.1 h0
    omega
  rw [if_pos h0, if_pos h0, h0]
  obtain ⟨S, hS⟩ : ∃ S, Rel S (DV.make stops) := ⟨_, rel_new h0⟩
  have hW := whole_plain h0 hS s
  have hal := make_all stops
  have hfl := (step_stops (DV.make stops) 0 s).2
  have hf0 : (DV.make stops).step 0 s = (DV.make stops).feed s := by unfold DV.step; rw [if_neg (by decide), if_neg (by decide)]
  rw [hf0, hal] at hfl
  obtain ⟨D0, hD0⟩ : ∃ D0, D0 = DV.make stops := ⟨_, rfl⟩
  rw [← hD0] at hH hW hal hfl
  have grow : ∀ {w2}, Fr (bet w.heap.size w1.heap.size) w1 w2 → Fr no w w2 := fun hf => hf1.trans hf (fun b hb e => by have := e.1; omega)
  have hT1' := hT.fr0 hf1
  refine sA [] rfl ?_
  refine ev_call rfl rfl rfl (hFeed hH hT1 hT1' (by rw [hal]; simp) s (by omega)) (fun r w2 hr => ?_)
  obtain ⟨⟨rfl, hH2⟩, hf2⟩ := hr
  have hfl2 : (D0.feed s).all.length ≤ s.length := by simpa using hfl
  refine sA [] rfl ?_
  refine ev_call rfl rfl rfl (hEnd hH2 hT1 (hT1'.frb hf2 hT1) (by omega)) (fun r w3 hr => ?_)
  obtain ⟨⟨rfl, hH3⟩, hf3⟩ := hr
  have hf13 := hf2.trans hf3 (fun _ _ e => e)
  refine sA [] rfl ?_
  refine ev_call rfl rfl rfl (hStopped hH3) (fun r w4 hr => ?_)
  obtain ⟨⟨a, b, rfl, hb, ha⟩, hf4⟩ := hr
  rw [hW.2] at hb ha
  have hH4 := hH3.fr0 hf4
  have hcm := cutM_ge stops s
  refine sC [] rfl ?_; refine sC [] rfl ?_; refine sD [] rfl ?_; refine sD [] rfl ?_
  refine ev_cond (b := b) rfl (fun hbt => ?_) (fun hbt => ?_)
  · have h1 : 0 ≤ cutM stops s := by rw [hbt] at hb; exact of_decide_eq_true hb.symm
    refine sA [] rfl ?_
    refine ev_call rfl rfl rfl (hText hH4) (fun r w5 hr => ?_)
    obtain ⟨rfl, rfl⟩ := hr
    refine sA [] rfl ?_
    exact ret3 (.inr rfl) rfl rfl rfl rfl ⟨by rw [hW.1, ha, if_neg (by omega)]; rfl, (grow hf13).tr hf4⟩
  · have h1 : ¬ 0 ≤ cutM stops s := by rw [hbt] at hb; exact of_decide_eq_false hb.symm
    refine sA [] rfl ?_
    refine ev_call rfl rfl rfl (hText hH4) (fun r w5 hr => ?_)
    obtain ⟨rfl, rfl⟩ := hr
    refine sA [] rfl ?_
    exact ret3 (.inr rfl) rfl rfl rfl rfl ⟨by rw [hW.1, show cutM stops s = -1 by omega]; rfl, (grow hf13).tr hf4⟩

theorem lawWhole (A : Option Addr) (c : Nat) (stops : List (List UInt8)) (s : List UInt8) (w : World) (hA : Cs w A (stops.map sv)) (hn : stops.length ≤ 100000000) (hst : ∀ t ∈ stops, t.length ≤ 100000000) (hs : s.length ≤ 10000000) (hT : UT w) :
    CallsF Tryd.prog 5 [.slice A stops.length c, sv s] w fun r w' => r = .bool true ∧ Fr no w w' := by
  refine callsF Tryd.func5 rfl rfl (by decide) rfl ?_
  refine sA [] rfl ?_
  refine ev_call rfl rfl rfl (lawAwake _ hT) (fun r w1 hr => ?_)
  obtain ⟨rfl, hf1⟩ := hr
  refine sA [] rfl ?_
  refine ev_call rfl rfl rfl (sWhole A c stops s _ (hA.fr0 hf1) hn hst hs (hT.fr0 hf1)) (fun r w2 hr => ?_)
  obtain ⟨rfl, hf2⟩ := hr
  have hf02 := hf1.tr hf2
  refine sA [] rfl ?_
  refine ev_call rfl rfl rfl (refCheck A c stops _ (hA.fr0 hf02) hn hst) (fun r w3 hr => ?_)
  obtain ⟨rfl, hf3⟩ := hr
  have hf03 := hf02.tr hf3
  rcases chk_cases stops with hc | hc | hc
  · rw [hc]
    have hcl := cutT_le stops s
    refine sA [] rfl ?_
    refine ev_call rfl rfl rfl (refCut A c stops s _ (hA.fr0 hf03) hn hst (by omega)) (fun r w4 hr => ?_)
    obtain ⟨rfl, rfl⟩ := hr
    refine sA [] rfl ?_
    refine ev_call rfl rfl rfl (refClean (cutT stops s) _ (by omega)) (fun r w5 hr => ?_)
    obtain ⟨rfl, hf5⟩ := hr
    refine sD [] rfl ?_; refine sD [] rfl ?_
    refine ev_guardD rfl rfl (fun _ => ?_) (fun e => absurd rfl e)
    refine sC [] rfl ?_; refine sD [] rfl ?_
    refine ev_guardD rfl rfl (fun _ => ?_) (fun e => absurd rfl e)
    refine sA [] rfl ?_
    exact ret1 (.inr rfl) rfl rfl ⟨rfl, hf03.tr hf5⟩
  · rw [hc]
    refine sA [] rfl ?_
    exact ret1 (.inr rfl) rfl rfl ⟨rfl, hf03⟩
  · rw [hc]
    refine sA [] rfl ?_
    exact ret1 (.inr rfl) rfl rfl ⟨rfl, hf03⟩
end Go.Wk.YtpnhfkmgnkdleaaDoor
