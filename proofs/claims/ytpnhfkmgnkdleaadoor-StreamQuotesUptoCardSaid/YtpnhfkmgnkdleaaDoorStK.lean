/-
  The walks of chapter 14: the document's cut, and what it holds back.
-/
import Derived.Test.YtpnhfkmgnkdleaaDoorStJ
set_option linter.unusedVariables false
namespace Go.Wk.YtpnhfkmgnkdleaaDoor
open Go Go.Wk Go.Proofs Go.Lib

/-- the first place from a on where p holds, of k places; a + k: none -/
def fst (p : Nat → Prop) [DecidablePred p] : Nat → Nat → Nat
  | a, 0 => a
  | a, k + 1 => if p a then a else fst p (a + 1) k
theorem fst_spec (p : Nat → Prop) [DecidablePred p] : ∀ k a, a ≤ fst p a k ∧ fst p a k ≤ a + k ∧ (∀ j, a ≤ j → j < fst p a k → ¬ p j) ∧ (fst p a k < a + k → p (fst p a k))
  | 0, a => ⟨Nat.le_refl _, Nat.le_refl _, fun j h1 h2 => by simp only [fst] at h2; omega, fun h => by simp only [fst] at h; omega⟩
  | k + 1, a => by
    unfold fst
    split
    · exact ⟨Nat.le_refl _, by omega, fun j h1 h2 => by omega, fun _ => by assumption⟩
    · rename_i hp
      obtain ⟨h1, h2, h3, h4⟩ := fst_spec p k (a + 1)
      refine ⟨by omega, by omega, fun j h5 h6 => ?_, fun h => h4 (by omega)⟩
      by_cases e : j = a
      · subst e; exact hp
      · exact h3 j (by omega) h6
theorem fst_of {p : Nat → Prop} [DecidablePred p] {a k n : Nat} (h1 : a ≤ n) (h2 : n ≤ a + k) (h3 : ∀ j, a ≤ j → j < n → ¬ p j) (h4 : n < a + k → p n) : fst p a k = n := by
  obtain ⟨g1, g2, g3, g4⟩ := fst_spec p k a
  rcases Nat.lt_trichotomy (fst p a k) n with h | h | h
  · exact absurd (g4 (by omega)) (h3 _ g1 h)
  · exact h
  · exact absurd (h4 (by omega)) (g3 _ h1 h)

/-- after how many bytes a stop text ends it -/
def cutN (stops : List (List UInt8)) (s : List UInt8) : Nat := fst (fun n => 0 ≤ stpA stops (s.take n)) 0 (s.length + 1)
def cutM (stops : List (List UInt8)) (s : List UInt8) : Int := if cutN stops s ≤ s.length then stpA stops (s.take (cutN stops s)) else -1
def cutT (stops : List (List UInt8)) (s : List UInt8) : List UInt8 := if cutN stops s ≤ s.length then s.take (cutN stops s - (stops.getD (cutM stops s).toNat []).length) else s
theorem cutM_ge (stops : List (List UInt8)) (s : List UInt8) : -1 ≤ cutM stops s ∧ cutM stops s < stops.length := by
  unfold cutM
  split
  · have := stp_lt stops (s.take (cutN stops s)) stops.length; exact ⟨this.1, this.2.1⟩
  · omega
/-- what begins a character or a stop text, and is not all of it -/
def BeginP (stops : List (List UInt8)) (t : List UInt8) : Prop := halfP t ∨ ∃ x ∈ stops, t.length < x.length ∧ x.take t.length = t
instance (stops : List (List UInt8)) (t : List UInt8) : Decidable (BeginP stops t) := by unfold BeginP; infer_instance
def heldAt (stops : List (List UInt8)) (s : List UInt8) : Nat := fst (fun j => BeginP stops (s.drop j)) (s.length - 64) (s.length - (s.length - 64))
def held (stops : List (List UInt8)) (s : List UInt8) : List UInt8 := s.drop (heldAt stops s)
theorem heldAt_le (stops : List (List UInt8)) (s : List UInt8) : heldAt stops s ≤ s.length := by
  have := (fst_spec (fun j => BeginP stops (s.drop j)) (s.length - (s.length - 64)) (s.length - 64)).2.1
  unfold heldAt; omega

set_option maxRecDepth 20000 in
theorem refCut (A : Option Addr) (c : Nat) (stops : List (List UInt8)) (s : List UInt8) (w : World) (hA : Cs w A (stops.map sv)) (hn : stops.length ≤ 100000000) (hst : ∀ t ∈ stops, t.length ≤ 100000000) (hs : s.length ≤ 100000000000) :
    CallsF Tryd.prog 20 [.slice A stops.length c, sv s] w fun r w' => r = .tuple #[sv (cutT stops s), .int .i64 (cutM stops s)] ∧ w' = w := by
  refine callsF Tryd.func20 rfl rfl (by decide) rfl ?_
  refine sA [] rfl ?_
  refine ev_loop (α := Nat) (fun n => [(0, .slice A stops.length c), (1, sv s), (6, .int .i64 n)])
    (fun n w' => n ≤ s.length + 1 ∧ (∀ m, m < n → stpA stops (s.take m) < 0) ∧ w' = w) (fun n => s.length + 1 - n) 0 ⟨rfl, rfl, rfl, trivial⟩ ⟨by omega, fun m h => by omega, rfl⟩ ?_
  rintro n w1 ⟨hn1, hno, rfl⟩
  refine sC [] rfl ?_; refine sC [] rfl ?_
  refine ev_condD rfl (fun hlt => ?_) (fun hlt => ?_)
  · refine sA [] rfl ?_
    refine ev_loop (α := Nat) (fun k => [(0, .slice A stops.length c), (1, sv s), (6, .int .i64 n), (7, .int .i64 (stp stops (s.take n) k)), (16, .slice A stops.length c), (17, .int .i64 stops.length), (18, .int .i64 k)])
      (fun k w' => k ≤ stops.length ∧ w' = w1) (fun k => stops.length - k) 0 ⟨rfl, rfl, rfl, rfl, rfl, rfl, rfl, trivial⟩ ⟨Nat.zero_le _, rfl⟩ ?_
    rintro k w2 ⟨hk, rfl⟩
    have hsl := stp_lt stops (s.take n) k
    refine sC [] rfl ?_; refine sD [] rfl ?_
    refine ev_condD rfl (fun hlt2 => ?_) (fun hlt2 => ?_)
    · have hk1 : k < stops.length := by omega
      obtain ⟨g, o, e1, hc⟩ := strs_at hA hk1
      subst e1
      have hxl := hst _ (getD_mem' hk1)
      generalize hxx : stops.getD k [] = x at *
      generalize hpp : stp stops (s.take n) k = a at *
      have hstep : stp stops (s.take n) (k + 1) = if endsW (s.take n) x ∧ (a < 0 ∨ (stops.getD a.toNat []).length < x.length) then (k : Int) else a := by rw [stp, hpp, hxx]
      refine sA [] rfl ?_
      refine ev_indexAddr rfl rfl tabOk rfl rfl rfl (by omega) (by omega) ?_
      refine ev_load rfl rfl tabOk rfl rfl ‹_› ?_; refine sA [] rfl ?_
      refine ev_sliceStr (s := s) (i := 0) (j := n) rfl rfl tabOk rfl rfl rfl rfl (by omega) (by omega) (by omega) ?_
      rw [Int.toNat_natCast, show (0 : Int).toNat = 0 from rfl, List.drop_zero]
      refine sA [] rfl ?_
      refine ev_call rfl rfl rfl (refEnds (s.take n) x _ (by rw [List.length_take]; omega) (by omega)) (fun q w3 hq => ?_)
      obtain ⟨rfl, rfl⟩ := hq
      refine sD [] rfl ?_
      have yes : endsW (s.take n) x ∧ (a < 0 ∨ (stops.getD a.toNat []).length < x.length) → stp stops (s.take n) (k + 1) = k := fun h => by rw [hstep, if_pos h]
      have nope : ¬ (endsW (s.take n) x ∧ (a < 0 ∨ (stops.getD a.toNat []).length < x.length)) → stp stops (s.take n) (k + 1) = a := fun h => by rw [hstep, if_neg h]
      refine ev_guardD rfl rfl (fun h1 => ?_) (fun h1 => ?_)
      · refine sD [] rfl ?_; refine sD [] rfl ?_; refine sD [] rfl ?_
        refine ev_guardD rfl rfl (fun h2 => ?_) (fun h2 => ?_)
        · refine sA [] rfl ?_; refine ev_arith rfl rfl rfl rfl rfl (by simp only [lowK, hiK]; omega) ?_; refine sA [] rfl ?_
          exact ev_next (k + 1) (by omega) ⟨by omega, rfl⟩ ⟨rfl, rfl, rfl, by rw [yes ⟨h1, .inl h2⟩]; rfl, rfl, rfl, rfl, trivial⟩
        · obtain ⟨m, rfl⟩ := Int.eq_ofNat_of_zero_le (show 0 ≤ a by omega)
          obtain ⟨g2, o2, e2, hc2⟩ := strs_at hA (j := m) (by omega)
          cases e2
          refine sA [] rfl ?_
          refine ev_indexAddr rfl rfl tabOk rfl rfl rfl (by omega) (by omega) ?_
          refine ev_load rfl rfl tabOk rfl rfl ‹_› ?_; refine sC [] rfl ?_; refine sD [] rfl ?_
          refine ev_condD rfl (fun h3 => ?_) (fun h3 => ?_)
          · refine sA [] rfl ?_; refine ev_arith rfl rfl rfl rfl rfl (by simp only [lowK, hiK]; omega) ?_; refine sA [] rfl ?_
            exact ev_next (k + 1) (by omega) ⟨by omega, rfl⟩ ⟨rfl, rfl, rfl, by rw [yes ⟨h1, .inr (by rw [Int.toNat_natCast]; omega)⟩]; rfl, rfl, rfl, rfl, trivial⟩
          · have hno : ¬ (endsW (s.take n) x ∧ ((m : Int) < 0 ∨ (stops.getD (m : Int).toNat []).length < x.length)) := fun h => by
              rcases h.2 with h | h
              · omega
              · rw [Int.toNat_natCast] at h; omega
            refine sA [] rfl ?_; refine ev_arith rfl rfl rfl rfl rfl (by simp only [lowK, hiK]; omega) ?_; refine sA [] rfl ?_
            exact ev_next (k + 1) (by omega) ⟨by omega, rfl⟩ ⟨rfl, rfl, rfl, by rw [nope hno]; rfl, rfl, rfl, rfl, trivial⟩
      · refine sA [] rfl ?_; refine ev_arith rfl rfl rfl rfl rfl (by simp only [lowK, hiK]; omega) ?_; refine sA [] rfl ?_
        exact ev_next (k + 1) (by omega) ⟨by omega, rfl⟩ ⟨rfl, rfl, rfl, by rw [nope (fun h => h1 h.1)]; rfl, rfl, rfl, rfl, trivial⟩
    · have hk' : k = stops.length := by omega
      subst hk'
      obtain ⟨a, ha⟩ : ∃ a, a = stpA stops (s.take n) := ⟨_, rfl⟩
      have hsa := stp_lt stops (s.take n) stops.length
      rw [show stp stops (s.take n) stops.length = a from ha.symm] at hsa
      refine sC [] rfl ?_; refine sC [] rfl ?_; refine sD [] rfl ?_
      rw [show stp stops (s.take n) stops.length = a from ha.symm]
      refine ev_condD rfl (fun h0 => ?_) (fun h0 => ?_)
      · obtain ⟨k, rfl⟩ := Int.eq_ofNat_of_zero_le (show 0 ≤ a by omega)
        have hk1 : k < stops.length := by omega
        obtain ⟨g, o, rfl, hcg⟩ := strs_at hA hk1
        have hend := hsa.2.2 (by omega)
        rw [Int.toNat_natCast] at hend
        have hel := hend.1
        rw [List.length_take] at hel
        have hN : cutN stops s = n := fst_of (by omega) (by omega) (fun j _ hj => by have := hno j hj; omega) (fun _ => by rw [← ha]; omega)
        have hM : cutM stops s = (k : Int) := by unfold cutM; rw [hN, if_pos (by omega), ← ha]
        have hTT : cutT stops s = s.take (n - (stops.getD k []).length) := by unfold cutT; rw [hN, if_pos (by omega), hM, Int.toNat_natCast]
        obtain ⟨x, hx⟩ : ∃ x, x = stops.getD k [] := ⟨_, rfl⟩
        rw [← hx] at hend hel hcg hTT
        refine sA [] rfl ?_
        refine ev_indexAddr rfl rfl tabOk rfl rfl rfl (by omega) (by omega) ?_
        refine ev_load rfl rfl tabOk rfl rfl ‹_› ?_; refine sA [] rfl ?_; refine ev_arith rfl rfl rfl rfl rfl (by simp only [lowK, hiK]; omega) ?_
        refine ev_sliceStr (s := s) (i := 0) rfl rfl tabOk rfl rfl rfl rfl (by omega) (by omega) (by omega) ?_
        rw [show ((n : Int) - (x.length : Int)).toNat = n - x.length by omega, show (0 : Int).toNat = 0 from rfl, List.drop_zero]
        refine sA [] rfl ?_
        exact ret2 (.inr rfl) rfl rfl rfl ⟨by rw [hTT, hM], rfl⟩
      · refine sA [] rfl ?_; refine ev_arith rfl rfl rfl rfl rfl (by simp only [lowK, hiK]; omega) ?_; refine sA [] rfl ?_
        exact ev_next (n + 1) (by omega) ⟨by omega, fun m h1 => by
          by_cases hmn : m = n
          · subst hmn; rw [← ha]; omega
          · exact hno m (by omega), rfl⟩ ⟨rfl, rfl, rfl, trivial⟩
  · have hn3 : n = s.length + 1 := by omega
    have hN : cutN stops s = s.length + 1 := fst_of (by omega) (by omega) (fun j _ hj => by have := hno j (by omega); omega) (fun h => absurd h (by omega))
    have hM : cutM stops s = -1 := by unfold cutM; rw [hN, if_neg (by omega)]
    have hTT : cutT stops s = s := by unfold cutT; rw [hN, if_neg (by omega)]
    refine sA [] rfl ?_
    exact ret2 (.inr rfl) rfl rfl rfl ⟨by rw [hTT, hM], rfl⟩

set_option maxRecDepth 20000 in
theorem refHeld (A : Option Addr) (c : Nat) (stops : List (List UInt8)) (s : List UInt8) (w : World) (hA : Cs w A (stops.map sv)) (hn : stops.length ≤ 100000000) (hst : ∀ t ∈ stops, t.length ≤ 100000000) (hs : s.length ≤ 100000000000) :
    CallsF Tryd.prog 60 [.slice A stops.length c, sv s] w fun r w' => r = sv (held stops s) ∧ Fr no w w' := by
  refine callsF Tryd.func60 rfl rfl (by decide) rfl ?_
  refine sA [] rfl ?_; refine ev_arith rfl rfl rfl rfl rfl (by simp only [lowK, hiK]; omega) ?_; refine sA [] rfl ?_
  rw [show (if (0 : Int) < (s.length : Int) - 64 then (s.length : Int) - 64 else 0) = ((s.length - 64 : Nat) : Int) by split <;> omega]
  have found : ∀ j w', s.length - 64 ≤ j → j ≤ s.length → (∀ i, s.length - 64 ≤ i → i < j → ¬ BeginP stops (s.drop i)) → (j < s.length → BeginP stops (s.drop j)) → Fr no w w' → sv (s.drop j) = sv (held stops s) ∧ Fr no w w' := fun j w' h1 h2 h3 h4 hf => by
    refine ⟨?_, hf⟩
    unfold held heldAt
    rw [fst_of h1 (by omega) h3 (fun h => h4 (by omega))]
  refine ev_loop (α := Nat) (fun j => [(0, .slice A stops.length c), (1, sv s), (5, .int .i64 j)])
    (fun j w' => s.length - 64 ≤ j ∧ j ≤ s.length ∧ (∀ i, s.length - 64 ≤ i → i < j → ¬ BeginP stops (s.drop i)) ∧ Fr no w w') (fun j => s.length - j) (s.length - 64) ⟨rfl, rfl, rfl, trivial⟩ ⟨by omega, by omega, fun m h1 h2 => by omega, Fr.refl _ _⟩ ?_
  rintro j w1 ⟨hj1, hj2, hno, hf1⟩
  refine sC [] rfl ?_; refine sC [] rfl ?_
  refine ev_condD rfl (fun hlt => ?_) (fun hlt => ?_)
  · have hjl : j < s.length := by omega
    obtain ⟨t, ht⟩ : ∃ t, t = s.drop j := ⟨_, rfl⟩
    have htl : t.length = s.length - j := by rw [ht, List.length_drop]
    have found' := fun w' hp hf => found j w' hj1 hj2 hno (fun _ => hp) hf
    rw [← ht] at found'
    have hdr : (s.take (s.length : Int).toNat).drop (j : Int).toNat = t := by rw [Int.toNat_natCast, Int.toNat_natCast, List.take_length, ht]
    refine sA [] rfl ?_
    refine ev_sliceStr (s := s) (i := j) (j := s.length) rfl rfl tabOk rfl rfl rfl rfl (by omega) (by omega) (by omega) ?_
    rw [hdr]
    skip
    refine ev_call rfl rfl rfl (refHalf t _ (by omega)) (fun q w3 hq => ?_)
    obtain ⟨rfl, hf3⟩ := hq
    have hf13 := hf1.tr hf3
    refine sD [] rfl ?_
    refine ev_condD rfl (fun h1 => ?_) (fun h1 => ?_)
    · refine sA [] rfl ?_
      refine ev_sliceStr (s := s) (i := j) (j := s.length) rfl rfl tabOk rfl rfl rfl rfl (by omega) (by omega) (by omega) ?_
      rw [hdr]
      refine sA [] rfl ?_
      exact ret1 (.inr rfl) rfl rfl (found' _ (.inl h1) hf13)
    refine sA [] rfl ?_
    refine ev_loop (α := Nat) (fun k => [(0, .slice A stops.length c), (1, sv s), (5, .int .i64 j), (25, .slice A stops.length c), (26, .int .i64 stops.length), (27, .int .i64 k)])
      (fun k w' => k ≤ stops.length ∧ (∀ i, i < k → ¬ (t.length < (stops.getD i []).length ∧ (stops.getD i []).take t.length = t)) ∧ Fr no w w') (fun k => stops.length - k) 0 ⟨rfl, rfl, rfl, rfl, rfl, rfl, trivial⟩ ⟨Nat.zero_le _, fun i h => by omega, hf13⟩ ?_
    clear hf1 hf3 hf13
    rintro k w2 ⟨hk, hno2, hf2⟩
    refine sC [] rfl ?_; refine sD [] rfl ?_
    refine ev_condD rfl (fun hlt2 => ?_) (fun hlt2 => ?_)
    · have hk1 : k < stops.length := by omega
      obtain ⟨g, o, e1, hc⟩ := strs_at (hA.fr0 hf2) hk1
      subst e1
      have hm := getD_mem' hk1
      have hxl := hst _ hm
      have hcont : ¬ (t.length < (stops.getD k []).length ∧ (stops.getD k []).take t.length = t) → ∀ i, i < k + 1 → ¬ (t.length < (stops.getD i []).length ∧ (stops.getD i []).take t.length = t) := fun h i hi => by
        by_cases hik : i = k
        · subst hik; exact h
        · exact hno2 i (by omega)
      obtain ⟨x, hx⟩ : ∃ x, x = stops.getD k [] := ⟨_, rfl⟩
      rw [← hx] at hm hc hxl hcont
      refine sA [] rfl ?_
      refine ev_indexAddr (len := stops.length) (i := k) rfl rfl tabOk rfl rfl rfl (by omega) (by omega) ?_
      refine ev_load rfl rfl tabOk rfl rfl ‹_› ?_; refine sA [] rfl ?_
      refine ev_draw mixed (by kernel_rfl) ?_
      refine qA rfl ?_; refine q_arith rfl rfl rfl rfl rfl (by simp only [lowK, hiK]; omega) ?_; refine qD rfl ?_; refine qD rfl ?_
      refine q_splitD 38 rfl (fun h2 => ?_) (fun h2 => ?_)
      · refine qA rfl ?_; refine q_arith rfl rfl rfl rfl rfl (by simp only [lowK, hiK]; omega) ?_
        refine q_sliceStr (s := x) (i := 0) (j := (s.length : Int) - j) rfl rfl tabOk rfl rfl rfl rfl (by omega) (by omega) (by omega) ?_
        rw [show ((s.length : Int) - (j : Int)).toNat = t.length by omega, show (0 : Int).toNat = 0 from rfl, List.drop_zero]
        refine qA rfl ?_
        refine q_sliceStr (s := s) (i := j) (j := s.length) rfl rfl tabOk rfl rfl rfl rfl (by omega) (by omega) (by omega) ?_
        rw [hdr]
        refine qA rfl ?_
        refine q_end fun w4 hf4 => ?_
        skip
        refine ev_condD rfl (fun h3 => ?_) (fun h3 => ?_)
        · refine sA [] rfl ?_
          refine ev_sliceStr (s := s) (i := j) (j := s.length) rfl rfl tabOk rfl rfl rfl rfl (by omega) (by omega) (by omega) ?_
          rw [hdr]
          refine sA [] rfl ?_
          exact ret1 (.inr rfl) rfl rfl (found' _ (.inr ⟨x, hm, by omega, h3⟩) (hf2.tr hf4))
        · refine sA [] rfl ?_; refine ev_arith rfl rfl rfl rfl rfl (by simp only [lowK, hiK]; omega) ?_; refine sA [] rfl ?_
          exact ev_next (k + 1) (by omega) ⟨by omega, hcont (fun h => h3 h.2), hf2.tr hf4⟩ ⟨rfl, rfl, rfl, rfl, rfl, rfl, trivial⟩
      · refine qA rfl ?_
        refine q_end fun w4 hf4 => ?_
        refine sA [] rfl ?_; refine ev_arith rfl rfl rfl rfl rfl (by simp only [lowK, hiK]; omega) ?_; refine sA [] rfl ?_
        exact ev_next (k + 1) (by omega) ⟨by omega, hcont (fun h => by omega), hf2.tr hf4⟩ ⟨rfl, rfl, rfl, rfl, rfl, rfl, trivial⟩
    · have hk' : k = stops.length := by omega
      subst hk'
      refine sA [] rfl ?_; refine ev_arith rfl rfl rfl rfl rfl (by simp only [lowK, hiK]; omega) ?_; refine sA [] rfl ?_
      refine ev_next (j + 1) (by omega) ⟨by omega, by omega, fun i h2 h3 => ?_, hf2⟩ ⟨rfl, rfl, rfl, trivial⟩
      by_cases hij : i = j
      · subst hij
        rw [← ht]
        rintro (h | ⟨x, hx, h⟩)
        · exact h1 h
        · obtain ⟨m, hm, rfl⟩ := List.getElem_of_mem hx
          exact hno2 m hm (by rw [List.getD_eq_getElem?_getD, List.getElem?_eq_getElem hm]; exact h)
      · exact hno i h2 (by omega)
  · have := found s.length w1 (by omega) (Nat.le_refl _) (fun i h1 h2 => hno i h1 (by omega)) (fun h => by omega) hf1
    rw [List.drop_length] at this
    refine sA [] rfl ?_
    exact ret1 (.inr rfl) rfl rfl this
end Go.Wk.YtpnhfkmgnkdleaaDoor
