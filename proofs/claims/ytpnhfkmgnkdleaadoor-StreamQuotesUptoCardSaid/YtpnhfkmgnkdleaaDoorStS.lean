/-
  The walks of chapter 14: a stream begun, beside the document's.
-/
import Derived.Test.YtpnhfkmgnkdleaaDoorStR
set_option linter.unusedVariables false
namespace Go.Wk.YtpnhfkmgnkdleaaDoor
open Go Go.Wk Go.Proofs Go.Lib

theorem lawBegun (A0 : Option Addr) (c0 : Nat) (stops : List (List UInt8)) (w : World) (hA : Cs w A0 (stops.map sv)) (hn : stops.length ≤ 100000000) (hst : ∀ t ∈ stops, t.length ≤ 100000000) (hT : UT w) :
    CallsF Tryd.prog 14 [.slice A0 stops.length c0] w fun r w' => (∃ x A c M, r = .tuple #[x, mM A c (DV.make stops), .bool true] ∧ Hd w.heap.size M w' x (DV.make stops) ∧ Cs w' A ((DV.make stops).stops.map sv) ∧ (∀ a, A = some a → bet M w'.heap.size a.block) ∧ w.heap.size ≤ M ∧ M ≤ w'.heap.size) ∧ Fr no w w' := by
  have hT1 := hT.lt
  refine callsF Tryd.func14 rfl rfl (by decide) rfl ?_
  refine sA [] rfl ?_
  refine ev_alloc rfl rfl inf26 (fun p w1 hp hB hf1 => ?_)
  refine sA [] rfl ?_
  refine ev_buildSlice tabOk rfl rfl rfl inf9 rfl rfl rfl (by simp) rfl (fun q w2 hq hb2 hf2 => ?_)
  have ho2 := own_of_blk (m := 0) (sz := 1) hb2 rfl (by omega)
  have hf02 := hf1.tr hf2
  refine sA [] rfl ?_
  refine ev_append tabOk rfl rfl rfl inf9 rfl (by omega) rfl rfl ho2 (hA.fr0 hf02) (by simp) (by intro u hu; simp only [List.mem_map] at hu; obtain ⟨_, _, rfl⟩ := hu; rfl) (by omega) (fun v w3 ho3 hf3 hne => ?_)
  have hq2 := ho2.lt rfl
  have hf13 : Fr no w1 w3 := hf2.trans hf3 (fun u hu z => by simp only [Value.ownBlock, Option.some.injEq] at z; omega)
  have hf03 := hf1.tr hf13
  have hvb : ∀ g, v.ownBlock = some g → w1.heap.size ≤ g := fun g hg => by
    rcases hne with h | h
    · rw [h] at hg; simp only [Value.ownBlock, Option.some.injEq] at hg; omega
    · rw [h] at hg; simp only [Option.some.injEq] at hg; have := hf2.size; omega
  rw [Nat.zero_add] at ho3
  have ho3 : Own w3 9 1 v stops.length (stops.map sv) := ho3
  obtain ⟨Av, cv, rfl, hAv, hvl⟩ := ho3.slice
  have hvl3 := fun g hg => ho3.lt (g := g) hg
  have hp1 := hB.lt
  have hB3 := hB.fr0 hf13
  clear hb2 hne ho2
  refine sA [] rfl ?_
  refine ev_call rfl rfl rfl (sNew Av cv stops _ hAv hn hst (hT.fr0 hf03)) (fun r w4 hr => ?_)
  obtain ⟨x, rfl, hN, hf4⟩ := hr
  have hf04 := hf03.tr hf4
  have hs3 := hf03.size; have hs4 := hf4.size; have hs13 := hf13.size
  refine sA [] rfl ?_
  refine ev_call rfl rfl rfl (refNew A0 c0 stops _ (hA.fr0 hf04) hn hst) (fun r w5 hr => ?_)
  obtain ⟨A, c, rfl, hC, hAb, hf5⟩ := hr
  have hH : Hd w3.heap.size w4.heap.size w5 x (DV.make stops) := (newHd hN).fr0 hf5
  have hx : (chk stops = 0 ∧ ∃ p, x = .pointer (some p)) ∨ (chk stops ≠ 0 ∧ x = .pointer none) := by
    rcases hN with ⟨h, p, v, rfl, _⟩ | h
    · exact .inl ⟨h, _, rfl⟩
    · exact .inr h
  have hs5 := hf5.size
  obtain ⟨D, hD⟩ : ∃ D, D = DV.make stops := ⟨_, rfl⟩
  rw [← hD] at hC hH
  rw [← hD]
  refine sA [] rfl ?_
  refine ev_alloc rfl rfl inf26 (fun m w6 hm hM hf6 => ?_)
  refine ev_storeAgg tabOk rfl rfl rfl rfl rfl rfl hM rfl (fun w7 hM7 hf7 => ?_)
  have hf57 := fresh_set hf6 hm hf7
  have hs6 := hf6.size; have hs7 := hf7.size
  have hml := hM7.lt
  have ho7 := ((ho3.fr0 hf4).fr0 hf5).fr0 hf57
  have hH7 := hH.fr0 hf57
  have hC7 := hC.fr0 hf57
  have hB7 := ((hB3.fr0 hf4).fr0 hf5).fr0 hf57
  have hf07 : Fr no w w7 := (hf04.tr hf5).tr hf57
  clear hM hf7 hf6 hB hB3
  refine sA [] rfl ?_
  refine ev_loop (α := Nat × List Value) (fun y => [(0, .slice A0 stops.length c0), (3, .pointer (some ⟨p, 0, none⟩)), (5, .slice Av stops.length cv), (6, x), (7, .int .i64 (chk stops)), (8, .pointer (some ⟨m, 0, none⟩)), (9, .int .i64 (chk stops)), (24, .slice Av stops.length cv), (25, .int .i64 stops.length), (26, .int .i64 y.1)])
    (fun y w' => y.1 ≤ stops.length ∧ Own w' 9 1 (.slice Av stops.length cv) stops.length y.2 ∧ (∀ j, y.1 ≤ j → y.2[j]? = (stops.map sv)[j]?) ∧ Fr (fun b => (Value.slice Av stops.length cv).ownBlock = some b) w7 w')
    (fun y => stops.length - y.1) (0, stops.map sv) ⟨rfl, rfl, rfl, rfl, rfl, rfl, rfl, rfl, rfl, rfl, trivial⟩ ⟨Nat.zero_le _, ho7, fun j _ => rfl, Fr.refl _ _⟩ ?_
  rintro ⟨k, xs⟩ w8 ⟨hk, ho8, hxs, hf8⟩
  simp only at hk ho8 hxs
  have hf08 : Fr no w w8 := hf07.trans hf8 (fun b hb e => by have := hvb b e; have := hf1.size; omega)
  have hM8 := hM7.fr hf8 (fun e => by have := hvl3 m e; omega)
  refine sC [] rfl ?_; refine sD [] rfl ?_
  refine ev_condD rfl (fun hlt => ?_) (fun hlt => ?_)
  · simp only at hlt
    have hk1 : k < stops.length := by omega
    have hx1 : xs[k]? = some (sv (stops.getD k [])) := by rw [hxs k (Nat.le_refl _)]; simp [hk1]
    obtain ⟨g, o, rfl, hc0⟩ := strs_at (hA.fr0 hf08) hk1
    obtain ⟨_, _, e1, hCv, hav⟩ := ho8.slice
    cases e1
    obtain ⟨g2, o2, rfl, hc2⟩ := hCv k _ hx1
    obtain ⟨h3, h4, h5⟩ := hav _ rfl
    simp only at h3 h4 h5
    subst h4
    have hc2 : w8.cell? ⟨g2, 0 + (k : Int).toNat * 1, none⟩ = some (sv (stops.getD k [])) := by rw [Int.toNat_natCast, Nat.mul_one]; exact hc2
    obtain ⟨t, ht⟩ : ∃ t, t = stops.getD k [] := ⟨_, rfl⟩
    rw [← ht] at hc0 hc2
    refine sA [] rfl ?_
    refine ev_draw mixed (by kernel_rfl) ?_
    refine qA rfl ?_
    refine q_indexAddr (len := stops.length) (i := k) rfl rfl tabOk rfl rfl rfl (by omega) (by omega) ?_
    refine q_load rfl rfl tabOk rfl rfl (fun _ hf => cell_fr (by assumption) hf id) ?_; refine qA rfl ?_
    refine q_indexAddr (len := stops.length) (i := k) rfl rfl tabOk rfl rfl rfl (by omega) (by omega) ?_
    refine q_load rfl rfl tabOk rfl rfl (fun _ hf => cell_fr (by assumption) hf id) ?_; refine qA rfl ?_
    refine q_end fun w9 hf9 => ?_
    have ho9 := ho8.fr0 hf9
    refine ev_condD rfl (fun hne => absurd rfl hne) (fun _ => ?_)
    refine sA [] rfl ?_
    refine ev_indexAddr (len := stops.length) (i := k) rfl rfl tabOk rfl rfl rfl (by omega) (by omega) ?_
    skip
    refine ev_storeRow tabOk rfl rfl rfl rfl rfl rfl ho9 rfl (by rw [Int.toNat_natCast]; omega) (fun wa hoa hfa => ?_)
    rw [show 0 + (k : Int).toNat * 1 = k by rw [Int.toNat_natCast]; omega] at hoa
    refine sA [] rfl ?_; refine ev_arith rfl rfl rfl rfl rfl (by simp only [lowK, hiK]; omega) ?_; refine sA [] rfl ?_
    exact ev_next (k + 1, xs.set k _) (by simp only; omega) ⟨by simp only; omega, hoa, fun j hj => by
      simp only at hj ⊢
      rw [List.getElem?_set_ne (by omega)]
      exact hxs j (by omega), (hf8.tr hf9).trans hfa (fun b _ e => by subst e; rfl)⟩ ⟨rfl, rfl, rfl, rfl, rfl, rfl, rfl, rfl, rfl, rfl, trivial⟩
  · have hs8 := hf8.size
    have hH8 := hH7.fr hf8 (fun b hb e => by have := hvl3 b e; have := hb.1; omega)
    have hC8 := hC7.fr hf8 (fun a ha e => by have := hvl3 _ e; have := (hAb a ha).1; omega)
    have hB8 := hB7.fr hf8 (fun e => by have := hvb _ e; omega)
    have hp8 : p ≠ m := by omega
    have fin : ∀ w', Fr (fun b => b = p) w8 w' → Hd w.heap.size w4.heap.size w' x D ∧ Cs w' A (D.stops.map sv) ∧ (∀ a, A = some a → bet w4.heap.size w'.heap.size a.block) ∧ w.heap.size ≤ w4.heap.size ∧ w4.heap.size ≤ w'.heap.size ∧ Fr no w w' := fun w' hf => by
      refine ⟨?_, hC8.fr hf (fun a ha e => ?_), fun a ha => ?_, by omega, by have := hf.size; omega, fresh_set hf08 hp hf⟩
      · have h := hH8.fr hf (fun b hb e => by have := hb.1; have : b = p := e; have := hf1.size; omega)
        rcases h with h | ⟨p, v, S, h1, h2, h3, h4, h5⟩
        · exact .inl h
        · have := hf.size
          exact .inr ⟨p, v, S, h1, h2, h3, ⟨by have := h4.1; omega, by have := h4.2; omega⟩, fun g hg => ⟨by have := (h5 g hg).1; omega, by have := (h5 g hg).2; omega⟩⟩
      · have := (hAb a ha).1; have : a.block = p := e; omega
      · have := hAb a ha; have := hf.size; exact ⟨by omega, by omega⟩
    have leaf : ∀ {h : Nat}, chk stops = h → (h = 0 ∧ ∃ p, x = .pointer (some p)) ∨ ((h = 140 ∨ h = 141) ∧ x = .pointer none) → chk stops = h ∧ ((h = 0 ∧ ∃ p, x = .pointer (some p)) ∨ ((h = 140 ∨ h = 141) ∧ x = .pointer none)) := fun a b => ⟨a, b⟩
    obtain ⟨h, hc, hx⟩ : ∃ h : Nat, chk stops = h ∧ ((h = 0 ∧ ∃ p, x = .pointer (some p)) ∨ (h = 140 ∧ x = .pointer none) ∨ (h = 141 ∧ x = .pointer none)) := by
      refine ⟨chk stops, rfl, ?_⟩
      rcases hx with ⟨h, hp⟩ | ⟨h, hp⟩
      · exact .inl ⟨h, hp⟩
      · rcases chk_cases stops with h' | h' | h'
        · exact absurd h' h
        · exact .inr (.inl ⟨h', hp⟩)
        · exact .inr (.inr ⟨h', hp⟩)
    rw [hc]
    have c8 : Cs w8 (some ⟨m, 0, none⟩) [.bool D.none, .slice A D.stops.length c, sv D.all, sv D.out, .int .i64 D.met, .bool D.ended] := Cs.of_blk hM8
    rcases hx with ⟨rfl, p0, rfl⟩ | ⟨rfl, rfl⟩ | ⟨rfl, rfl⟩
    all_goals
      repeat (first | refine sA [] rfl ?_ | refine sB [] rfl ?_ | refine sC [] rfl ?_ | refine sD [] rfl ?_ | refine ev_load rfl rfl tabOk rfl rfl ‹_› ?_ | refine ev_loadB rfl rfl tabOk rfl rfl ‹_› (by rfl) ?_ | refine ev_loadAggB rfl rfl tabOk rfl rfl ‹_› (by rfl) ?_ | refine ev_arith rfl rfl rfl rfl rfl (by simp only [lowK, hiK]; omega) ?_ | refine ev_rem rfl rfl rfl rfl (by omega) (by omega) ?_ | refine ev_quo rfl rfl rfl rfl (by omega) (by omega) (by simp only [hiK]; omega) ?_ | refine ev_index rfl rfl tabOk rfl rfl rfl (by omega) (by omega) ?_ | refine ev_indexA rfl rfl tabOk rfl rfl rfl (by omega) (by omega) rfl ?_ | refine ev_convB rfl rfl tabOk rfl rfl rfl rfl ?_ | refine ev_conv rfl rfl tabOk rfl rfl rfl (by simp only [lowK, hiK]; omega) ?_)
      refine mixC_in (fun w' => Fr (fun b => b = p) w8 w') mixed (fun w9 hf9 => ?_)
      have hf9' : Fr (fun b => b = p) w8 w9 := hf9.mono fun _ _ z => z.elim
      have hB9 := hB8.fr0 hf9
      refine mA rfl (by kernel_rfl) (by kernel_rfl) ?_
      refine m_loadAgg 1 rfl rfl rfl (by kernel_rfl) (by kernel_rfl) rfl rfl tabOk rfl rfl rfl (fun w' hw => c8.fr hw (fun a ha e => by cases ha; exact hp8 e.symm)) ?_
      refine mix1 rfl rfl ?_ hf9'
      refine ev_storeAgg tabOk rfl rfl rfl rfl rfl rfl hB9 rfl (fun wa hBa hfa => ?_)
      refine mix_op ?_
      refine mA rfl (by kernel_rfl) (by kernel_rfl) ?_
      have hf8a := hf9'.trans hfa (fun _ _ e => e)
      refine mix_out rfl ?_ hf8a
      repeat (first | refine sA [] rfl ?_ | refine sB [] rfl ?_ | refine sC [] rfl ?_ | refine sD [] rfl ?_ | refine ev_load rfl rfl tabOk rfl rfl ‹_› ?_ | refine ev_loadB rfl rfl tabOk rfl rfl ‹_› (by rfl) ?_ | refine ev_loadAggB rfl rfl tabOk rfl rfl ‹_› (by rfl) ?_ | refine ev_arith rfl rfl rfl rfl rfl (by simp only [lowK, hiK]; omega) ?_ | refine ev_rem rfl rfl rfl rfl (by omega) (by omega) ?_ | refine ev_quo rfl rfl rfl rfl (by omega) (by omega) (by simp only [hiK]; omega) ?_ | refine ev_index rfl rfl tabOk rfl rfl rfl (by omega) (by omega) ?_ | refine ev_indexA rfl rfl tabOk rfl rfl rfl (by omega) (by omega) rfl ?_ | refine ev_convB rfl rfl tabOk rfl rfl rfl rfl ?_ | refine ev_conv rfl rfl tabOk rfl rfl rfl (by simp only [lowK, hiK]; omega) ?_)
      exact retG tabOk (.inr rfl) rfl [_, mM A c D, .bool true] ⟨rfl, ⟨_, rfl, .inl ⟨rfl, _, rfl, rfl, Cs.of_blk hBa⟩⟩, rfl, trivial⟩ (have g := fin _ hf8a; ⟨⟨_, A, c, _, rfl, g.1, g.2.1, g.2.2.1, g.2.2.2.1, g.2.2.2.2.1⟩, g.2.2.2.2.2⟩)
end Go.Wk.YtpnhfkmgnkdleaaDoor
