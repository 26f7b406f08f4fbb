/-
  The walks of chapter 13: the document's Check.
-/
import Derived.Test.YtfgllkflnkolhaaDoorVoA
set_option linter.unusedVariables false
namespace Go.Wk.YtfgllkflnkolhaaDoor
open Go Go.Wk Go.Proofs

theorem refToken (A : Option Addr) (c : Nat) (B : Option Addr) (d : Nat) (v : VV) (i : Int) (w : World) :
    CallsF Tryd.prog 110 [vv A c B d v, i64 i] w fun r w' => r = .bool (decide (v.tok i)) ∧ Fr no w w' := by
  refine callsF Tryd.func110 rfl rfl (by decide) rfl ?_
  refine stepF_ok tabOk [] (m := 3) rfl ?_
  refine ev_box rfl rfl rfl (fun p wb hp hB hfb => ?_)
  have hB : Blk wb p [.slice A v.texts.length c, .slice B v.merges.length d] 39 := hB
  refine sC [] rfl ?_; refine sD [] rfl ?_; refine sD [] rfl ?_; refine sD [] rfl ?_
  refine ev_guardD rfl rfl (fun h1 => ?_) (fun h1 => ?_)
  · refine sA [] rfl ?_; refine ev_loadB rfl rfl tabOk rfl rfl ‹_› (by rfl) ?_; refine sA [] rfl ?_
    refine ret1 (.inr rfl) rfl rfl ⟨?_, hfb⟩
    congr 1
    exact decide_eq_decide.2 ⟨fun h => ⟨by omega, h⟩, fun h => h.2⟩
  · refine sA [] rfl ?_
    refine ret1 (.inr rfl) rfl rfl ⟨?_, hfb⟩
    rw [decide_eq_false (fun h => h1 (by have := h.1; omega))]
theorem says (A : Option Addr) (c : Nat) (B : Option Addr) (d : Nat) (v : VV) (i : Int) (w : World) :
    CallsF Tryd.prog 88 [vv A c B d v, i64 i] w fun r w' => r = .bool (decide (v.tok i)) ∧ Fr no w w' := by
  refine callsF Tryd.func88 rfl rfl (by decide) rfl ?_
  refine stepF_ok tabOk [] (m := 3) rfl ?_
  refine ev_box rfl rfl rfl (fun p wb hp hB hfb => ?_)
  have hB : Blk wb p [.slice A v.texts.length c, .slice B v.merges.length d] 48 := hB
  refine sC [] rfl ?_; refine sD [] rfl ?_; refine sD [] rfl ?_; refine sD [] rfl ?_
  refine ev_guardD rfl rfl (fun h1 => ?_) (fun h1 => ?_)
  · refine sA [] rfl ?_; refine ev_loadB rfl rfl tabOk rfl rfl ‹_› (by rfl) ?_; refine sA [] rfl ?_
    refine ret1 (.inr rfl) rfl rfl ⟨?_, hfb⟩
    congr 1
    exact decide_eq_decide.2 ⟨fun h => ⟨by omega, h⟩, fun h => h.2⟩
  · refine sA [] rfl ?_
    refine ret1 (.inr rfl) rfl rfl ⟨?_, hfb⟩
    rw [decide_eq_false (fun h => h1 (by have := h.1; omega))]

theorem refText (A : Option Addr) (c : Nat) (B : Option Addr) (d : Nat) (v : VV) (i : Nat) (w : World) (hV : Vo w A B v) (hi : i < v.texts.length) (hS : VS v) :
    CallsF Tryd.prog 94 [vv A c B d v, i64 i] w fun r w' => r = .bool (decide (v.okT i)) ∧ Fr no w w' := by
  have hn := hS.texts
  have hl := hS.len i
  refine callsF Tryd.func94 rfl rfl (by decide) rfl ?_
  refine stepF_ok tabOk [] (m := 3) rfl ?_
  refine ev_box rfl rfl rfl (fun p wb hp hB hfb => ?_)
  have hB : Blk wb p [.slice A v.texts.length c, .slice B v.merges.length d] 39 := hB
  have hA := hV.1.fr0 hfb
  obtain ⟨g, o, e1, hcx⟩ := strs_at hA hi
  subst e1
  have hcx : wb.cell? ⟨g, o + (i : Int).toNat * 1, none⟩ = some (sv (v.t i)) := hcx
  refine sA [] rfl ?_; refine ev_loadB rfl rfl tabOk rfl rfl ‹_› (by rfl) ?_; refine sA [] rfl ?_
  refine ev_indexAddr (len := v.texts.length) (i := i) rfl rfl tabOk rfl rfl rfl (by omega) (by omega) ?_
  refine ev_load rfl rfl tabOk rfl rfl ‹_› ?_; refine sA [] rfl ?_
  refine ev_loop (α := Nat) (fun k => [(1, i64 i), (2, .pointer (some ⟨p, 0, none⟩)), (5, sv (v.t i)), (6, i64 k)])
    (fun k w' => k ≤ i ∧ (∀ j, j < k → v.t j ≠ v.t i) ∧ w' = wb) (fun k => i - k) 0 ⟨rfl, rfl, rfl, rfl, trivial⟩ ⟨Nat.zero_le _, fun j h => by omega, rfl⟩ ?_
  rintro k w1 ⟨hk, hno, rfl⟩
  refine sC [] rfl ?_; refine sD [] rfl ?_; refine sD [] rfl ?_; refine sD [] rfl ?_
  refine ev_condD rfl (fun hlt => ?_) (fun hlt => ?_)
  · have hk1 : k < v.texts.length := by omega
    have hcy : w1.cell? ⟨g, o + (k : Int).toNat * 1, none⟩ = some (sv (v.t k)) := by
      obtain ⟨g', o', e', hc'⟩ := strs_at hA hk1
      cases e'
      exact hc'
    refine sA [] rfl ?_; refine ev_loadB rfl rfl tabOk rfl rfl ‹_› (by rfl) ?_; refine sA [] rfl ?_
    refine ev_indexAddr (len := v.texts.length) (i := k) rfl rfl tabOk rfl rfl rfl (by omega) (by omega) ?_
    refine ev_load rfl rfl tabOk rfl rfl ‹_› ?_; refine sD [] rfl ?_; refine sD [] rfl ?_; refine sD [] rfl ?_
    refine ev_condD rfl (fun he => ?_) (fun he => ?_)
    · refine sA [] rfl ?_
      exact ret1 (.inr rfl) rfl rfl ⟨by rw [decide_eq_false (fun h => (h : v.okT i).1 k (by omega) he)], hfb⟩
    · refine sA [] rfl ?_; refine ev_arith rfl rfl rfl rfl rfl (by simp only [lowK, hiK]; omega) ?_; refine sA [] rfl ?_
      refine ev_next (k + 1) (by omega) ⟨by omega, fun j hj => ?_, rfl⟩ ⟨rfl, rfl, rfl, rfl, trivial⟩
      by_cases e : j = k
      · subst e; exact he
      · exact hno j (by omega)
  · have hki : k = i := by omega
    subst hki
    have e0 : decide ((k : Int) = 0) = decide (k = 0) := decide_eq_decide.2 ⟨fun h => by omega, fun h => by omega⟩
    refine sC [] rfl ?_; refine sC [] rfl ?_; refine sD [] rfl ?_; refine sD [] rfl ?_
    rw [e0]
    by_cases h1 : v.t k = []
    · rw [h1]
      by_cases h2 : k = 0
      · rw [decide_eq_true h2]
        refine sA [] rfl ?_
        exact ret1 (.inr rfl) rfl rfl ⟨by rw [decide_eq_true (show v.okT k from ⟨hno, ⟨fun _ => h2, fun _ => h1⟩, by rw [h1]; simp⟩)]; rfl, hfb⟩
      · rw [decide_eq_false h2]
        refine sA [] rfl ?_
        exact ret1 (.inr rfl) rfl rfl ⟨by rw [decide_eq_false (fun h => h2 ((h : v.okT k).2.1.1 h1))], hfb⟩
    · rw [decide_eq_false h1]
      by_cases h2 : k = 0
      · rw [decide_eq_true h2]
        refine sA [] rfl ?_
        exact ret1 (.inr rfl) rfl rfl ⟨by rw [decide_eq_false (fun h => h1 ((h : v.okT k).2.1.2 h2))], hfb⟩
      · rw [decide_eq_false h2]
        refine sA [] rfl ?_
        refine ret1 (.inr rfl) rfl rfl ⟨?_, hfb⟩
        congr 1
        refine decide_eq_decide.2 ⟨fun h => ⟨hno, ⟨fun e => absurd e h1, fun e => absurd e h2⟩, by omega⟩, fun h => ?_⟩
        have := h.2.2
        omega

theorem refMerge (A : Option Addr) (c : Nat) (B : Option Addr) (d : Nat) (v : VV) (j : Nat) (w : World) (hV : Vo w A B v) (hj : j < v.merges.length) (hS : VS v) :
    CallsF Tryd.prog 95 [vv A c B d v, i64 j] w fun r w' => r = .bool (decide (v.okM j)) ∧ Fr no w w' := by
  have hn := hS.merges
  have hnt := hS.texts
  refine callsF Tryd.func95 rfl rfl (by decide) rfl ?_
  refine stepF_ok tabOk [] (m := 3) rfl ?_
  refine ev_box rfl rfl rfl (fun p wb hp hB hfb => ?_)
  have hB : Blk wb p [.slice A v.texts.length c, .slice B v.merges.length d] 39 := hB
  have hM := hV.2.fr0 hfb
  obtain ⟨g, o, e1, hcx⟩ := mrgs_at hM hj
  subst e1
  have hcx : Cs wb (some ⟨g, o + (j : Int).toNat * 3, none⟩) (mrg1 (v.m j)) := hcx
  refine sA [] rfl ?_; refine ev_loadB rfl rfl tabOk rfl rfl ‹_› (by rfl) ?_; refine sA [] rfl ?_
  refine ev_indexAddr (len := v.merges.length) (i := j) rfl rfl tabOk rfl rfl rfl (by omega) (by omega) ?_
  refine ev_loadAgg rfl rfl tabOk rfl rfl rfl hcx ?_
  have hpl := hB.lt
  refine ev_alloc rfl rfl inf123 (fun q w1 hq hQ hf1 => ?_)
  refine ev_storeAgg tabOk rfl rfl rfl rfl rfl rfl hQ rfl (fun w2 hQ2 hf2 => ?_)
  have hQ2 : Blk w2 q [i64 (v.m j).1, i64 (v.m j).2.1, i64 (v.m j).2.2] 123 := hQ2
  have hfb2 : Fr no wb w2 := hf1.trans hf2 (fun b hb e => by have : b = q := e; omega)
  have hf02 := hfb.tr hfb2
  have hB2 := hB.fr0 hfb2
  have hV2 := hV.fr0 hf02
  clear hB hQ hM hcx hf1 hf2 hfb2
  have bad : ¬ v.okM j → decide (v.okM j) = false := fun h => decide_eq_false h
  obtain ⟨m1, hm1⟩ : ∃ x, x = (v.m j).1 := ⟨_, rfl⟩
  obtain ⟨m2, hm2⟩ : ∃ x, x = (v.m j).2.1 := ⟨_, rfl⟩
  obtain ⟨m3, hm3⟩ : ∃ x, x = (v.m j).2.2 := ⟨_, rfl⟩
  have hokM : v.okM j ↔ v.tok m1 ∧ v.tok m2 ∧ v.tok m3 ∧ v.t m3.toNat = v.t m1.toNat ++ v.t m2.toNat ∧ ∀ k, k < j → ((v.m k).1, (v.m k).2.1) ≠ (m1, m2) := by rw [hm1, hm2, hm3]; exact Iff.rfl
  rw [← hm1, ← hm2, ← hm3] at hQ2
  have tk : ∀ (i : Int) w', Fr no w2 w' → CallsF Tryd.prog 110 [vv A c (some ⟨g, o, none⟩) d v, i64 i] w' fun u w'' => u = .bool (decide (v.tok i)) ∧ Fr no w2 w'' := fun i w' hw' => (refToken A c _ d v i w').mono fun u w'' z => ⟨z.1, hw'.tr z.2⟩
  refine sA [] rfl ?_
  by_cases h1 : v.tok m1
  · have h1' := decide_eq_true h1
    by_cases h2 : v.tok m2
    · have h2' := decide_eq_true h2
      by_cases h3 : v.tok m3
      · have h3' := decide_eq_true h3
        obtain ⟨k1, hk1⟩ : ∃ k : Nat, m1 = k := ⟨m1.toNat, by have := h1.1; omega⟩
        obtain ⟨k2, hk2⟩ : ∃ k : Nat, m2 = k := ⟨m2.toNat, by have := h2.1; omega⟩
        obtain ⟨k3, hk3⟩ : ∃ k : Nat, m3 = k := ⟨m3.toNat, by have := h3.1; omega⟩
        have b1 := h1.2; have b2 := h2.2; have b3 := h3.2
        have hA2 := hV2.1
        obtain ⟨ga, oa, ea, ca1⟩ := strs_at hA2 (j := k1) (by omega)
        subst ea
        have ca1 : w2.cell? ⟨ga, oa + m1.toNat * 1, none⟩ = some (sv (v.t m1.toNat)) := by rw [hk1]; exact ca1
        have ca2 : w2.cell? ⟨ga, oa + m2.toNat * 1, none⟩ = some (sv (v.t m2.toNat)) := by
          obtain ⟨g', o', e', hc'⟩ := strs_at hA2 (j := k2) (by omega)
          cases e'; rw [hk2]; exact hc'
        have ca3 : w2.cell? ⟨ga, oa + m3.toNat * 1, none⟩ = some (sv (v.t m3.toNat)) := by
          obtain ⟨g', o', e', hc'⟩ := strs_at hA2 (j := k3) (by omega)
          cases e'; rw [hk3]; exact hc'
        have l1 := hS.len m1.toNat
        have l2 := hS.len m2.toNat
        refine ev_draw mixed (by kernel_rfl) ?_
        refine q_loadAggB rfl rfl tabOk rfl rfl ‹_› (by rfl) ?_; refine qA rfl ?_; refine q_loadB rfl rfl tabOk rfl rfl ‹_› (by rfl) ?_
        refine q_call rfl rfl rfl (tk m1) ?_
        rw [h1']
        refine qA rfl ?_; refine q_loadAggB rfl rfl tabOk rfl rfl ‹_› (by rfl) ?_; refine qA rfl ?_; refine q_loadB rfl rfl tabOk rfl rfl ‹_› (by rfl) ?_
        refine q_call rfl rfl rfl (tk m2) ?_
        rw [h2']
        refine qA rfl ?_; refine q_loadAggB rfl rfl tabOk rfl rfl ‹_› (by rfl) ?_; refine qA rfl ?_; refine q_loadB rfl rfl tabOk rfl rfl ‹_› (by rfl) ?_
        refine q_call rfl rfl rfl (tk m3) ?_
        rw [h3']
        refine qA rfl ?_; refine q_loadB rfl rfl tabOk rfl rfl ‹_› (by rfl) ?_; refine qA rfl ?_; refine q_loadB rfl rfl tabOk rfl rfl ‹_› (by rfl) ?_
        refine q_indexAddr (len := v.texts.length) (i := m3) rfl rfl tabOk rfl rfl rfl (by omega) (by omega) ?_
        refine q_load rfl rfl tabOk rfl rfl (fun _ hf => cell_fr (by assumption) hf id) ?_; refine qA rfl ?_; refine q_loadB rfl rfl tabOk rfl rfl ‹_› (by rfl) ?_; refine qA rfl ?_; refine q_loadB rfl rfl tabOk rfl rfl ‹_› (by rfl) ?_
        refine q_indexAddr (len := v.texts.length) (i := m1) rfl rfl tabOk rfl rfl rfl (by omega) (by omega) ?_
        refine q_load rfl rfl tabOk rfl rfl (fun _ hf => cell_fr (by assumption) hf id) ?_; refine qA rfl ?_; refine q_loadB rfl rfl tabOk rfl rfl ‹_› (by rfl) ?_; refine qA rfl ?_; refine q_loadB rfl rfl tabOk rfl rfl ‹_› (by rfl) ?_
        refine q_indexAddr (len := v.texts.length) (i := m2) rfl rfl tabOk rfl rfl rfl (by omega) (by omega) ?_
        refine q_load rfl rfl tabOk rfl rfl (fun _ hf => cell_fr (by assumption) hf id) ?_
        refine q_concat rfl rfl rfl rfl (by omega) ?_
        refine qA rfl ?_
        refine q_end fun w3 hf3 => ?_
        have hf03 := hf02.tr hf3
        have hB3 := hB2.fr0 hf3
        have hQ3 := hQ2.fr0 hf3
        have hV3 := hV2.fr0 hf3
        clear hB2 hQ2 hV2 ca1 ca2 ca3 hA2
        refine ev_condD rfl (fun h4 => ?_) (fun h4 => ?_)
        · refine sA [] rfl ?_
          exact ret1 (.inr rfl) rfl rfl ⟨by rw [bad (fun h => h4 (hokM.1 h).2.2.2.1)], hf03⟩
        · have h4 := Decidable.not_not.1 h4
          refine sA [] rfl ?_
          refine ev_loop (α := Nat) (fun k => [(1, i64 j), (2, .pointer (some ⟨p, 0, none⟩)), (5, .pointer (some ⟨q, 0, none⟩)), (6, i64 k)])
            (fun k w' => k ≤ j ∧ (∀ i, i < k → ((v.m i).1, (v.m i).2.1) ≠ (m1, m2)) ∧ Fr no w w' ∧ Vo w' (some ⟨ga, oa, none⟩) (some ⟨g, o, none⟩) v ∧ Blk w' p [.slice (some ⟨ga, oa, none⟩) v.texts.length c, .slice (some ⟨g, o, none⟩) v.merges.length d] 39 ∧ Blk w' q [i64 m1, i64 m2, i64 m3] 123) (fun k => j - k) 0 ⟨rfl, rfl, rfl, rfl, trivial⟩ ⟨Nat.zero_le _, fun j h => by omega, hf03, hV3, hB3, hQ3⟩ ?_
          clear hf03 hV3 hB3 hQ3
          rintro k w4 ⟨hk, hno, hf4, hV4, hB4, hQ4⟩
          refine sC [] rfl ?_; refine sD [] rfl ?_; refine sD [] rfl ?_; refine sD [] rfl ?_
          refine ev_condD rfl (fun hlt => ?_) (fun hlt => ?_)
          · obtain ⟨g', o', e', hc⟩ := mrgs_at hV4.2 (j := k) (by omega)
            cases e'
            obtain ⟨hc1, hc2, hc3⟩ := mrg_cells hc
            have hc1 : w4.cell? ⟨g, o + (k : Int).toNat * 3, none⟩ = some (i64 (v.m k).1) := hc1
            have hc2 : w4.cell? ⟨g, o + (k : Int).toNat * 3 + 1, none⟩ = some (i64 (v.m k).2.1) := hc2
            clear hc3
            refine sA [] rfl ?_
            refine ev_draw mixed (by kernel_rfl) ?_
            refine qA rfl ?_; refine q_loadB rfl rfl tabOk rfl rfl ‹_› (by rfl) ?_; refine qA rfl ?_
            refine q_indexAddr (len := v.merges.length) (i := k) rfl rfl tabOk rfl rfl rfl (by omega) (by omega) ?_
            refine qA rfl ?_; refine q_load rfl rfl tabOk rfl rfl (fun _ hf => cell_fr (by assumption) hf id) ?_; refine qA rfl ?_; refine q_loadB rfl rfl tabOk rfl rfl ‹_› (by rfl) ?_; refine qD rfl ?_; refine qD rfl ?_
            by_cases h5 : (v.m k).1 = m1
            · rw [decide_eq_true h5]
              refine qA rfl ?_; refine q_loadB rfl rfl tabOk rfl rfl ‹_› (by rfl) ?_; refine qA rfl ?_
              refine q_indexAddr (len := v.merges.length) (i := k) rfl rfl tabOk rfl rfl rfl (by omega) (by omega) ?_
              refine qA rfl ?_; refine q_load rfl rfl tabOk rfl rfl (fun _ hf => cell_fr (by assumption) hf id) ?_; refine qA rfl ?_; refine q_loadB rfl rfl tabOk rfl rfl ‹_› (by rfl) ?_; refine qA rfl ?_
              refine q_end fun w5 hf5 => ?_
              have hf05 := hf4.tr hf5
              refine ev_condD rfl (fun h6 => ?_) (fun h6 => ?_)
              · refine sA [] rfl ?_
                exact ret1 (.inr rfl) rfl rfl ⟨by rw [bad (fun h => (hokM.1 h).2.2.2.2 k (by omega) (by rw [h5, h6]))], hf05⟩
              · refine sA [] rfl ?_; refine ev_arith rfl rfl rfl rfl rfl (by simp only [lowK, hiK]; omega) ?_; refine sA [] rfl ?_
                refine ev_next (k + 1) (by omega) ⟨by omega, fun i hi => ?_, hf05, hV4.fr0 hf5, hB4.fr0 hf5, hQ4.fr0 hf5⟩ ⟨rfl, rfl, rfl, rfl, trivial⟩
                by_cases e : i = k
                · subst e; exact fun e => h6 (congrArg Prod.snd e)
                · exact hno i (by omega)
            · rw [decide_eq_false h5]
              refine qA rfl ?_
              refine q_end fun w5 hf5 => ?_
              refine sA [] rfl ?_; refine ev_arith rfl rfl rfl rfl rfl (by simp only [lowK, hiK]; omega) ?_; refine sA [] rfl ?_
              refine ev_next (k + 1) (by omega) ⟨by omega, fun i hi => ?_, hf4.tr hf5, hV4.fr0 hf5, hB4.fr0 hf5, hQ4.fr0 hf5⟩ ⟨rfl, rfl, rfl, rfl, trivial⟩
              by_cases e : i = k
              · subst e; exact fun e => h5 (congrArg Prod.fst e)
              · exact hno i (by omega)
          · have hkj : k = j := by omega
            subst hkj
            refine sA [] rfl ?_
            exact ret1 (.inr rfl) rfl rfl ⟨by rw [decide_eq_true (hokM.2 ⟨h1, h2, h3, h4, hno⟩)], hf4⟩
      · have h3' := decide_eq_false h3
        refine ev_draw mixed (by kernel_rfl) ?_
        refine q_loadAggB rfl rfl tabOk rfl rfl ‹_› (by rfl) ?_; refine qA rfl ?_; refine q_loadB rfl rfl tabOk rfl rfl ‹_› (by rfl) ?_
        refine q_call rfl rfl rfl (tk m1) ?_
        rw [h1']
        refine qA rfl ?_; refine q_loadAggB rfl rfl tabOk rfl rfl ‹_› (by rfl) ?_; refine qA rfl ?_; refine q_loadB rfl rfl tabOk rfl rfl ‹_› (by rfl) ?_
        refine q_call rfl rfl rfl (tk m2) ?_
        rw [h2']
        refine qA rfl ?_; refine q_loadAggB rfl rfl tabOk rfl rfl ‹_› (by rfl) ?_; refine qA rfl ?_; refine q_loadB rfl rfl tabOk rfl rfl ‹_› (by rfl) ?_
        refine q_call rfl rfl rfl (tk m3) ?_
        rw [h3']
        refine qA rfl ?_
        refine q_end fun w3 hf3 => ?_
        refine sA [] rfl ?_
        exact ret1 (.inr rfl) rfl rfl ⟨by rw [bad (fun h => h3 (hokM.1 h).2.2.1)], hf02.tr hf3⟩
    · have h2' := decide_eq_false h2
      refine ev_draw mixed (by kernel_rfl) ?_
      refine q_loadAggB rfl rfl tabOk rfl rfl ‹_› (by rfl) ?_; refine qA rfl ?_; refine q_loadB rfl rfl tabOk rfl rfl ‹_› (by rfl) ?_
      refine q_call rfl rfl rfl (tk m1) ?_
      rw [h1']
      refine qA rfl ?_; refine q_loadAggB rfl rfl tabOk rfl rfl ‹_› (by rfl) ?_; refine qA rfl ?_; refine q_loadB rfl rfl tabOk rfl rfl ‹_› (by rfl) ?_
      refine q_call rfl rfl rfl (tk m2) ?_
      rw [h2']
      refine qA rfl ?_
      refine q_end fun w3 hf3 => ?_
      refine sA [] rfl ?_
      exact ret1 (.inr rfl) rfl rfl ⟨by rw [bad (fun h => h2 (hokM.1 h).2.1)], hf02.tr hf3⟩
  · have h1' := decide_eq_false h1
    refine ev_draw mixed (by kernel_rfl) ?_
    refine q_loadAggB rfl rfl tabOk rfl rfl ‹_› (by rfl) ?_; refine qA rfl ?_; refine q_loadB rfl rfl tabOk rfl rfl ‹_› (by rfl) ?_
    refine q_call rfl rfl rfl (tk m1) ?_
    rw [h1']
    refine qA rfl ?_
    refine q_end fun w3 hf3 => ?_
    refine sA [] rfl ?_
    exact ret1 (.inr rfl) rfl rfl ⟨by rw [bad (fun h => h1 (hokM.1 h).1)], hf02.tr hf3⟩

theorem refCheck (A : Option Addr) (c : Nat) (B : Option Addr) (d : Nat) (v : VV) (w : World) (hV : Vo w A B v) (hS : VS v) :
    CallsF Tryd.prog 72 [vv A c B d v] w fun r w' => r = chkR v ∧ Fr no w w' := by
  have hn := hS.merges
  have hnt := hS.texts
  refine callsF Tryd.func72 rfl rfl (by decide) rfl ?_
  refine stepF_ok tabOk [] (m := 3) rfl ?_
  refine ev_box rfl rfl rfl (fun p wb hp hB hfb => ?_)
  have hB : Blk wb p [.slice A v.texts.length c, .slice B v.merges.length d] 39 := hB
  refine sA [] rfl ?_; refine ev_loadB rfl rfl tabOk rfl rfl ‹_› (by rfl) ?_; refine sD [] rfl ?_; refine sD [] rfl ?_; refine sD [] rfl ?_
  refine ev_condD rfl (fun h1 => ?_) (fun h1 => ?_)
  · refine sA [] rfl ?_
    exact ret2 (.inr rfl) rfl rfl rfl ⟨by unfold chkR; rw [chk_1 (by omega)]; rfl, hfb⟩
  have h1 : ¬ 512 < v.texts.length := by omega
  refine sA [] rfl ?_
  refine ev_loop (α := Nat) (fun k => [(1, .pointer (some ⟨p, 0, none⟩)), (2, i64 0), (3, i64 0), (4, i64 k)])
    (fun k w' => k ≤ v.texts.length ∧ (∀ j, j < k → v.okT j) ∧ Fr no w w' ∧ Blk w' p [.slice A v.texts.length c, .slice B v.merges.length d] 39) (fun k => v.texts.length - k) 0 ⟨rfl, rfl, rfl, rfl, trivial⟩ ⟨Nat.zero_le _, fun j h => by omega, hfb, hB⟩ ?_
  clear hB hfb
  rintro k w1 ⟨hk, hall, hf, hB⟩
  refine sA [] rfl ?_; refine ev_loadB rfl rfl tabOk rfl rfl ‹_› (by rfl) ?_; refine sD [] rfl ?_; refine sD [] rfl ?_; refine sD [] rfl ?_
  refine ev_condD rfl (fun hlt => ?_) (fun hlt => ?_)
  · have hk1 : k < v.texts.length := by omega
    refine sA [] rfl ?_; refine ev_loadAggB rfl rfl tabOk rfl rfl ‹_› (by rfl) ?_; refine sA [] rfl ?_
    refine ev_call rfl rfl rfl (refText A c B d v k _ (hV.fr0 hf) hk1 hS) (fun r w2 hr => ?_)
    obtain ⟨rfl, hf2⟩ := hr
    have hB2 := hB.fr0 hf2
    clear hB
    by_cases h2 : v.okT k
    · rw [decide_eq_true h2]
      refine sA [] rfl ?_; refine ev_arith rfl rfl rfl rfl rfl (by simp only [lowK, hiK]; omega) ?_; refine sA [] rfl ?_
      refine ev_next (k + 1) (by omega) ⟨by omega, fun i hi => ?_, hf.tr hf2, hB2⟩ ⟨rfl, rfl, rfl, rfl, trivial⟩
      by_cases e : i = k
      · subst e; exact h2
      · exact hall i (by omega)
    · rw [decide_eq_false h2]
      refine sA [] rfl ?_
      exact ret2 (.inr rfl) rfl rfl rfl ⟨by unfold chkR; rw [chk_2 h1 hk1 hall h2]; rfl, hf.tr hf2⟩
  · have hkn : k = v.texts.length := by omega
    subst hkn
    refine sA [] rfl ?_; refine ev_loadB rfl rfl tabOk rfl rfl ‹_› (by rfl) ?_; refine sD [] rfl ?_; refine sD [] rfl ?_; refine sD [] rfl ?_
    refine ev_condD rfl (fun h2 => ?_) (fun h2 => ?_)
    · refine sA [] rfl ?_; refine ev_loadB rfl rfl tabOk rfl rfl ‹_› (by rfl) ?_; refine sA [] rfl ?_
      exact ret2 (.inr rfl) rfl rfl rfl ⟨by unfold chkR; rw [chk_3 h1 hall (by omega)]; rfl, hf⟩
    have h2 : ¬ v.texts.length < 2 := by omega
    refine sA [] rfl ?_; refine ev_loadB rfl rfl tabOk rfl rfl ‹_› (by rfl) ?_; refine sD [] rfl ?_; refine sD [] rfl ?_; refine sD [] rfl ?_
    refine ev_condD rfl (fun h3 => ?_) (fun h3 => ?_)
    · refine sA [] rfl ?_
      exact ret2 (.inr rfl) rfl rfl rfl ⟨by unfold chkR; rw [chk_4 h1 hall h2 (by omega)]; rfl, hf⟩
    have h3 : ¬ 1024 < v.merges.length := by omega
    refine sA [] rfl ?_
    refine ev_loop (α := Nat) (fun k => [(1, .pointer (some ⟨p, 0, none⟩)), (2, i64 0), (3, i64 0), (5, i64 k)])
      (fun k w' => k ≤ v.merges.length ∧ (∀ j, j < k → v.okM j) ∧ Fr no w w' ∧ Blk w' p [.slice A v.texts.length c, .slice B v.merges.length d] 39) (fun k => v.merges.length - k) 0 ⟨rfl, rfl, rfl, rfl, trivial⟩ ⟨Nat.zero_le _, fun j h => by omega, hf, hB⟩ ?_
    clear hB hf
    rintro k w1 ⟨hk, hallM, hf, hB⟩
    refine sA [] rfl ?_; refine ev_loadB rfl rfl tabOk rfl rfl ‹_› (by rfl) ?_; refine sD [] rfl ?_; refine sD [] rfl ?_; refine sD [] rfl ?_
    refine ev_condD rfl (fun hlt => ?_) (fun hlt => ?_)
    · have hk1 : k < v.merges.length := by omega
      refine sA [] rfl ?_; refine ev_loadAggB rfl rfl tabOk rfl rfl ‹_› (by rfl) ?_; refine sA [] rfl ?_
      refine ev_call rfl rfl rfl (refMerge A c B d v k _ (hV.fr0 hf) hk1 hS) (fun r w2 hr => ?_)
      obtain ⟨rfl, hf2⟩ := hr
      have hB2 := hB.fr0 hf2
      clear hB
      by_cases h4 : v.okM k
      · rw [decide_eq_true h4]
        refine sA [] rfl ?_; refine ev_arith rfl rfl rfl rfl rfl (by simp only [lowK, hiK]; omega) ?_; refine sA [] rfl ?_
        refine ev_next (k + 1) (by omega) ⟨by omega, fun i hi => ?_, hf.tr hf2, hB2⟩ ⟨rfl, rfl, rfl, rfl, trivial⟩
        by_cases e : i = k
        · subst e; exact h4
        · exact hallM i (by omega)
      · rw [decide_eq_false h4]
        refine sA [] rfl ?_
        exact ret2 (.inr rfl) rfl rfl rfl ⟨by unfold chkR; rw [chk_5 h1 hall h2 h3 hk1 hallM h4]; rfl, hf.tr hf2⟩
    · have hkn : k = v.merges.length := by omega
      subst hkn
      refine sA [] rfl ?_
      exact ret2 (.inr rfl) rfl rfl rfl ⟨by unfold chkR; rw [chk_6 h1 hall h2 h3 hallM]; rfl, hf⟩
end Go.Wk.YtfgllkflnkolhaaDoor
