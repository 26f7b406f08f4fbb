/-
  StreamCleans: the walk.
-/
import Derived.Test.YtpnhfkmgnkdleaaDoorSpB
import Derived.Test.YtpnhfkmgnkdleaaDoorStY
set_option linter.unusedVariables false
namespace Go.Wk.YtpnhfkmgnkdleaaDoor
open Go Go.Wk Go.Proofs Go.Lib

theorem good_repl (y : List UInt8) : good (repl ++ y) := by
  have hf : fits (repl ++ y) = 3 := fits_of (fun j hj => (goes_app (by simpa [repl] using hj)).2 ((by decide : ∀ j, j < 3 → goes repl j) j hj)) (fun h => by
    have := h.2.1
    rw [getD_app (by decide)] at this
    revert this; decide)
  exact ⟨by omega, by rw [hf, getD_app (by decide)]; decide⟩
theorem asc_good {l : List UInt8} (h : 0 < l.length) (ha : (l.getD 0 0).toNat < 128) : good l ∧ wid l = 1 := by
  obtain ⟨h1, h2⟩ := asc_siz ha
  have g0 : goes l 0 := ⟨h, by omega, .inl rfl⟩
  have g1 : ¬ goes l 1 := fun h => by have := h.2.1; omega
  have hf : fits l = 1 := fits_of (fun j hj => by rcases (show j = 0 by omega) with rfl; exact g0) g1
  have hg : good l := ⟨by omega, by omega⟩
  exact ⟨hg, by unfold wid; rw [if_pos hg, hf]⟩
theorem not_clean {s : List UInt8} {pos : Nat} (h : clean s = s.take pos ++ clean (s.drop pos)) (hp : pos < s.length) (hb : ¬ good (s.drop pos)) : clean s ≠ s := fun e => by
  have h0 : 0 < (s.drop pos).length := by rw [List.length_drop]; omega
  rw [e] at h
  have h2 : s.take pos ++ s.drop pos = s.take pos ++ clean (s.drop pos) := by rw [List.take_append_drop]; exact h
  have h3 := List.append_cancel_left h2
  rw [clean_cons h0, if_neg hb] at h3
  exact hb (h3 ▸ good_repl _)

set_option maxRecDepth 20000 in
set_option maxHeartbeats 2000000 in
theorem toValid (s : List UInt8) (w : World) (hs : s.length ≤ 1000000000) (hT : UT w) :
    CallsF Tryd.prog 28 [sv s, sv [63]] w fun r w' => (∃ o, r = sv o ∧ (o = s ↔ clean s = s)) ∧ Fr no w w' := by
  have h01 := hT.lt
  have h63 : ([63] : List UInt8).length = 1 := rfl
  refine callsF Tryd.func28 rfl rfl (by decide) rfl ?_
  repeat (first
    | refine stepF_ok tabOk [] (m := 400) rfl ?_
    | refine stepF_ok tabOk [] (m := 16) rfl ?_
    | refine stepF_ok tabOk [] (m := 3) rfl ?_
    | refine stepF_ok tabOk [] (m := 0) rfl ?_
    | refine ev_load rfl rfl tabOk rfl rfl (by assumption) ?_
    | refine ev_loadB rfl rfl tabOk rfl rfl (by assumption) (by rfl) ?_
    | refine ev_loadAggB rfl rfl tabOk rfl rfl (by assumption) (by rfl) ?_
    | refine ev_arith rfl rfl rfl rfl rfl (by simp only [lowK, hiK]; omega) ?_
    | refine ev_rem rfl rfl rfl rfl (by omega) (by omega) ?_
    | refine ev_quo rfl rfl rfl rfl (by omega) (by omega) (by simp only [hiK]; omega) ?_
    | refine ev_index rfl rfl tabOk rfl rfl rfl (by omega) (by omega) ?_
    | refine ev_indexA rfl rfl tabOk rfl rfl rfl (by omega) (by omega) rfl ?_
    | refine ev_convB rfl rfl tabOk rfl rfl rfl rfl ?_
    | refine ev_conv rfl rfl tabOk rfl rfl rfl (by simp only [lowK, hiK]; omega) ?_)
  refine ev_alloc rfl rfl inf89 (fun b w1 hb hB1 hf1 => ?_)
  repeat (first
    | refine stepF_ok tabOk [] (m := 400) rfl ?_
    | refine stepF_ok tabOk [] (m := 16) rfl ?_
    | refine stepF_ok tabOk [] (m := 3) rfl ?_
    | refine stepF_ok tabOk [] (m := 0) rfl ?_
    | refine ev_load rfl rfl tabOk rfl rfl (by assumption) ?_
    | refine ev_loadB rfl rfl tabOk rfl rfl (by assumption) (by rfl) ?_
    | refine ev_loadAggB rfl rfl tabOk rfl rfl (by assumption) (by rfl) ?_
    | refine ev_arith rfl rfl rfl rfl rfl (by simp only [lowK, hiK]; omega) ?_
    | refine ev_rem rfl rfl rfl rfl (by omega) (by omega) ?_
    | refine ev_quo rfl rfl rfl rfl (by omega) (by omega) (by simp only [hiK]; omega) ?_
    | refine ev_index rfl rfl tabOk rfl rfl rfl (by omega) (by omega) ?_
    | refine ev_indexA rfl rfl tabOk rfl rfl rfl (by omega) (by omega) rfl ?_
    | refine ev_convB rfl rfl tabOk rfl rfl rfl rfl ?_
    | refine ev_conv rfl rfl tabOk rfl rfl rfl (by simp only [lowK, hiK]; omega) ?_)
  refine ev_range tabOk rfl rfl rfl rfl (fun r w2 hr hI2 hf2 => ?_)
  have hbl := hB1.lt
  have hB2 := hB1.fr0 hf2
  have hrw : w.heap.size ≤ r := by have := hf1.size; omega
  have hrb : b < r := by omega
  repeat (first
    | refine stepF_ok tabOk [] (m := 400) rfl ?_
    | refine stepF_ok tabOk [] (m := 16) rfl ?_
    | refine stepF_ok tabOk [] (m := 3) rfl ?_
    | refine stepF_ok tabOk [] (m := 0) rfl ?_
    | refine ev_load rfl rfl tabOk rfl rfl (by assumption) ?_
    | refine ev_loadB rfl rfl tabOk rfl rfl (by assumption) (by rfl) ?_
    | refine ev_loadAggB rfl rfl tabOk rfl rfl (by assumption) (by rfl) ?_
    | refine ev_arith rfl rfl rfl rfl rfl (by simp only [lowK, hiK]; omega) ?_
    | refine ev_rem rfl rfl rfl rfl (by omega) (by omega) ?_
    | refine ev_quo rfl rfl rfl rfl (by omega) (by omega) (by simp only [hiK]; omega) ?_
    | refine ev_index rfl rfl tabOk rfl rfl rfl (by omega) (by omega) ?_
    | refine ev_indexA rfl rfl tabOk rfl rfl rfl (by omega) (by omega) rfl ?_
    | refine ev_convB rfl rfl tabOk rfl rfl rfl rfl ?_
    | refine ev_conv rfl rfl tabOk rfl rfl rfl (by simp only [lowK, hiK]; omega) ?_)
  refine ev_loop (α := Nat) (fun y => [(0, sv s), (1, sv [63]), (5, .pointer (some ⟨b, 0, none⟩)), (16, .pointer (some ⟨r, 0, none⟩))])
    (fun y w' => y ≤ s.length ∧ Itr w' r s y ∧ Blk w' b [.pointer none, .slice none 0 0] 89 ∧ clean s = s.take y ++ clean (s.drop y) ∧ Fr no w w') (fun y => s.length - y) 0 ⟨rfl, rfl, rfl, rfl, trivial⟩
    ⟨Nat.zero_le _, hI2, hB2, rfl, hf1.tr hf2⟩ ?_
  clear hI2 hB2 hf1 hf2 hB1
  rintro pos w3 ⟨hpos, hI, hB, hcl, hf⟩
  repeat (first
    | refine stepF_ok tabOk [] (m := 400) rfl ?_
    | refine stepF_ok tabOk [] (m := 16) rfl ?_
    | refine stepF_ok tabOk [] (m := 3) rfl ?_
    | refine stepF_ok tabOk [] (m := 0) rfl ?_
    | refine ev_load rfl rfl tabOk rfl rfl (by assumption) ?_
    | refine ev_loadB rfl rfl tabOk rfl rfl (by assumption) (by rfl) ?_
    | refine ev_loadAggB rfl rfl tabOk rfl rfl (by assumption) (by rfl) ?_
    | refine ev_arith rfl rfl rfl rfl rfl (by simp only [lowK, hiK]; omega) ?_
    | refine ev_rem rfl rfl rfl rfl (by omega) (by omega) ?_
    | refine ev_quo rfl rfl rfl rfl (by omega) (by omega) (by simp only [hiK]; omega) ?_
    | refine ev_index rfl rfl tabOk rfl rfl rfl (by omega) (by omega) ?_
    | refine ev_indexA rfl rfl tabOk rfl rfl rfl (by omega) (by omega) rfl ?_
    | refine ev_convB rfl rfl tabOk rfl rfl rfl rfl ?_
    | refine ev_conv rfl rfl tabOk rfl rfl rfl (by simp only [lowK, hiK]; omega) ?_)
  refine ev_next1 rfl rfl rfl hI (fun w4 hlt hI4 hf4 => ?_) (fun hlt => ?_)
  · have hd := dcd_spec (s.drop pos) rfl (by rw [List.length_drop]; omega)
    have hll : (s.drop pos).length = s.length - pos := List.length_drop
    have hw1 := wid_pos (s.drop pos)
    have hw2 := wid_le (l := s.drop pos) (by omega)
    have hcc := clean_cons (l := s.drop pos) (by omega)
    have edd : (s.drop pos).drop (wid (s.drop pos)) = s.drop (pos + wid (s.drop pos)) := by rw [List.drop_drop]
    have ett : s.take pos ++ (s.drop pos).take (wid (s.drop pos)) = s.take (pos + wid (s.drop pos)) := by rw [List.take_add]
    have ed : (s.take (s.length : Int).toNat).drop (pos : Int).toNat = s.drop pos := by rw [Int.toNat_natCast, Int.toNat_natCast, List.take_length]
    have hnc := not_clean hcl hlt
    rw [edd] at hcc
    rw [hd.1] at hI4
    have hsz := hf.size
    have hB4 := hB.fr hf4 (fun e => by omega)
    have hf04 : Fr no w w4 := hf.trans hf4 (fun c hc e => by omega)
    clear hI hB hf4
    obtain ⟨l, hl⟩ : ∃ l, l = s.drop pos := ⟨_, rfl⟩
    rw [← hl] at hd hll hw1 hw2 hcc edd ett ed hI4 hcl hnc
    obtain ⟨n, hn⟩ : ∃ n, n = wid l := ⟨_, rfl⟩
    rw [← hn] at hd hw1 hw2 hcc edd ett hI4
    generalize hD : (dcd s pos).1 = D at *
    have go : good l → clean s = s.take (pos + n) ++ clean (s.drop (pos + n)) := fun hg => by
      rw [if_pos hg] at hcc
      rw [hcl, hcc, ← List.append_assoc, ett]
    repeat (first
      | refine stepF_ok tabOk [] (m := 400) rfl ?_
      | refine stepF_ok tabOk [] (m := 16) rfl ?_
      | refine stepF_ok tabOk [] (m := 3) rfl ?_
      | refine stepF_ok tabOk [] (m := 0) rfl ?_
      | refine ev_load rfl rfl tabOk rfl rfl (by assumption) ?_
      | refine ev_loadB rfl rfl tabOk rfl rfl (by assumption) (by rfl) ?_
      | refine ev_loadAggB rfl rfl tabOk rfl rfl (by assumption) (by rfl) ?_
      | refine ev_arith rfl rfl rfl rfl rfl (by simp only [lowK, hiK]; omega) ?_
      | refine ev_rem rfl rfl rfl rfl (by omega) (by omega) ?_
      | refine ev_quo rfl rfl rfl rfl (by omega) (by omega) (by simp only [hiK]; omega) ?_
      | refine ev_index rfl rfl tabOk rfl rfl rfl (by omega) (by omega) ?_
      | refine ev_indexA rfl rfl tabOk rfl rfl rfl (by omega) (by omega) rfl ?_
      | refine ev_convB rfl rfl tabOk rfl rfl rfl rfl ?_
      | refine ev_conv rfl rfl tabOk rfl rfl rfl (by simp only [lowK, hiK]; omega) ?_)
    refine ev_condD rfl (fun h1 => ?_) (fun h1 => ?_)
    · have hg : good l := by
        by_cases hg : good l
        · exact hg
        · exact absurd (by have := (hd.2.1 hg).1; omega) h1
      repeat (first
        | refine stepF_ok tabOk [] (m := 400) rfl ?_
        | refine stepF_ok tabOk [] (m := 16) rfl ?_
        | refine stepF_ok tabOk [] (m := 3) rfl ?_
        | refine stepF_ok tabOk [] (m := 0) rfl ?_
        | refine ev_load rfl rfl tabOk rfl rfl (by assumption) ?_
        | refine ev_loadB rfl rfl tabOk rfl rfl (by assumption) (by rfl) ?_
        | refine ev_loadAggB rfl rfl tabOk rfl rfl (by assumption) (by rfl) ?_
        | refine ev_arith rfl rfl rfl rfl rfl (by simp only [lowK, hiK]; omega) ?_
        | refine ev_rem rfl rfl rfl rfl (by omega) (by omega) ?_
        | refine ev_quo rfl rfl rfl rfl (by omega) (by omega) (by simp only [hiK]; omega) ?_
        | refine ev_index rfl rfl tabOk rfl rfl rfl (by omega) (by omega) ?_
        | refine ev_indexA rfl rfl tabOk rfl rfl rfl (by omega) (by omega) rfl ?_
        | refine ev_convB rfl rfl tabOk rfl rfl rfl rfl ?_
        | refine ev_conv rfl rfl tabOk rfl rfl rfl (by simp only [lowK, hiK]; omega) ?_)
      exact ev_next (pos + n) (by omega) ⟨by omega, hI4, hB4, go hg, hf04⟩ ⟨rfl, rfl, rfl, rfl, trivial⟩
    · repeat (first
        | refine stepF_ok tabOk [] (m := 400) rfl ?_
        | refine stepF_ok tabOk [] (m := 16) rfl ?_
        | refine stepF_ok tabOk [] (m := 3) rfl ?_
        | refine stepF_ok tabOk [] (m := 0) rfl ?_
        | refine ev_load rfl rfl tabOk rfl rfl (by assumption) ?_
        | refine ev_loadB rfl rfl tabOk rfl rfl (by assumption) (by rfl) ?_
        | refine ev_loadAggB rfl rfl tabOk rfl rfl (by assumption) (by rfl) ?_
        | refine ev_arith rfl rfl rfl rfl rfl (by simp only [lowK, hiK]; omega) ?_
        | refine ev_rem rfl rfl rfl rfl (by omega) (by omega) ?_
        | refine ev_quo rfl rfl rfl rfl (by omega) (by omega) (by simp only [hiK]; omega) ?_
        | refine ev_index rfl rfl tabOk rfl rfl rfl (by omega) (by omega) ?_
        | refine ev_indexA rfl rfl tabOk rfl rfl rfl (by omega) (by omega) rfl ?_
        | refine ev_convB rfl rfl tabOk rfl rfl rfl rfl ?_
        | refine ev_conv rfl rfl tabOk rfl rfl rfl (by simp only [lowK, hiK]; omega) ?_)
      refine ev_sliceStr rfl rfl tabOk rfl rfl rfl rfl (by omega) (by omega) (by omega) ?_
      rw [ed]
      refine ev_call rfl rfl rfl (decRune l _ (by omega) (by omega) (hT.fr0 hf04)) (fun q w5 hq => ?_)
      obtain ⟨⟨r', rfl, hr'⟩, hf5⟩ := hq
      rw [← hn]
      have hI5 := hI4.fr0 hf5
      have hB5 := hB4.fr0 hf5
      have hf05 := hf04.tr hf5
      clear hI4 hB4 hf5 hf04
      repeat (first
        | refine stepF_ok tabOk [] (m := 400) rfl ?_
        | refine stepF_ok tabOk [] (m := 16) rfl ?_
        | refine stepF_ok tabOk [] (m := 3) rfl ?_
        | refine stepF_ok tabOk [] (m := 0) rfl ?_
        | refine ev_load rfl rfl tabOk rfl rfl (by assumption) ?_
        | refine ev_loadB rfl rfl tabOk rfl rfl (by assumption) (by rfl) ?_
        | refine ev_loadAggB rfl rfl tabOk rfl rfl (by assumption) (by rfl) ?_
        | refine ev_arith rfl rfl rfl rfl rfl (by simp only [lowK, hiK]; omega) ?_
        | refine ev_rem rfl rfl rfl rfl (by omega) (by omega) ?_
        | refine ev_quo rfl rfl rfl rfl (by omega) (by omega) (by simp only [hiK]; omega) ?_
        | refine ev_index rfl rfl tabOk rfl rfl rfl (by omega) (by omega) ?_
        | refine ev_indexA rfl rfl tabOk rfl rfl rfl (by omega) (by omega) rfl ?_
        | refine ev_convB rfl rfl tabOk rfl rfl rfl rfl ?_
        | refine ev_conv rfl rfl tabOk rfl rfl rfl (by simp only [lowK, hiK]; omega) ?_)
      refine ev_condD rfl (fun h2 => ?_) (fun h2 => ?_)
      · have hg : ¬ good l := fun hg => by
          have := hd.2.2 hg (by omega)
          have h1 := Decidable.not_not.1 h1
          omega
        have hne := hnc hg
        repeat (first
          | refine stepF_ok tabOk [] (m := 400) rfl ?_
          | refine stepF_ok tabOk [] (m := 16) rfl ?_
          | refine stepF_ok tabOk [] (m := 3) rfl ?_
          | refine stepF_ok tabOk [] (m := 0) rfl ?_
          | refine ev_load rfl rfl tabOk rfl rfl (by assumption) ?_
          | refine ev_loadB rfl rfl tabOk rfl rfl (by assumption) (by rfl) ?_
          | refine ev_loadAggB rfl rfl tabOk rfl rfl (by assumption) (by rfl) ?_
          | refine ev_arith rfl rfl rfl rfl rfl (by simp only [lowK, hiK]; omega) ?_
          | refine ev_rem rfl rfl rfl rfl (by omega) (by omega) ?_
          | refine ev_quo rfl rfl rfl rfl (by omega) (by omega) (by simp only [hiK]; omega) ?_
          | refine ev_index rfl rfl tabOk rfl rfl rfl (by omega) (by omega) ?_
          | refine ev_indexA rfl rfl tabOk rfl rfl rfl (by omega) (by omega) rfl ?_
          | refine ev_convB rfl rfl tabOk rfl rfl rfl rfl ?_
          | refine ev_conv rfl rfl tabOk rfl rfl rfl (by simp only [lowK, hiK]; omega) ?_)
        have hG := bdGrow b (s.length + 1) _ hB5 (by omega)
        rw [show ((s.length + 1 : Nat) : Int) = (s.length : Int) + (([63] : List UInt8).length : Nat) by simp] at hG
        refine ev_call rfl rfl rfl hG (fun q w6 hq => ?_)
        obtain ⟨v6, hB6, hf6, hg6, hc6⟩ := hq
        repeat (first
          | refine stepF_ok tabOk [] (m := 400) rfl ?_
          | refine stepF_ok tabOk [] (m := 16) rfl ?_
          | refine stepF_ok tabOk [] (m := 3) rfl ?_
          | refine stepF_ok tabOk [] (m := 0) rfl ?_
          | refine ev_load rfl rfl tabOk rfl rfl (by assumption) ?_
          | refine ev_loadB rfl rfl tabOk rfl rfl (by assumption) (by rfl) ?_
          | refine ev_loadAggB rfl rfl tabOk rfl rfl (by assumption) (by rfl) ?_
          | refine ev_arith rfl rfl rfl rfl rfl (by simp only [lowK, hiK]; omega) ?_
          | refine ev_rem rfl rfl rfl rfl (by omega) (by omega) ?_
          | refine ev_quo rfl rfl rfl rfl (by omega) (by omega) (by simp only [hiK]; omega) ?_
          | refine ev_index rfl rfl tabOk rfl rfl rfl (by omega) (by omega) ?_
          | refine ev_indexA rfl rfl tabOk rfl rfl rfl (by omega) (by omega) rfl ?_
          | refine ev_convB rfl rfl tabOk rfl rfl rfl rfl ?_
          | refine ev_conv rfl rfl tabOk rfl rfl rfl (by simp only [lowK, hiK]; omega) ?_)
        refine ev_sliceStr (s := s) (i := 0) rfl rfl tabOk rfl rfl rfl rfl (by omega) (by omega) (by omega) ?_
        rw [show (0 : Int).toNat = 0 from rfl, List.drop_zero, Int.toNat_natCast]
        refine ev_call rfl rfl rfl (bdWriteC b v6 [] (s.take pos) _ hB6 (by rw [List.length_take]; simp; omega)) (fun q w7 hq => ?_)
        obtain ⟨v7, hB7, hf7, hn7, hc7⟩ := hq
        repeat (first
          | refine stepF_ok tabOk [] (m := 400) rfl ?_
          | refine stepF_ok tabOk [] (m := 16) rfl ?_
          | refine stepF_ok tabOk [] (m := 3) rfl ?_
          | refine stepF_ok tabOk [] (m := 0) rfl ?_
          | refine ev_load rfl rfl tabOk rfl rfl (by assumption) ?_
          | refine ev_loadB rfl rfl tabOk rfl rfl (by assumption) (by rfl) ?_
          | refine ev_loadAggB rfl rfl tabOk rfl rfl (by assumption) (by rfl) ?_
          | refine ev_arith rfl rfl rfl rfl rfl (by simp only [lowK, hiK]; omega) ?_
          | refine ev_rem rfl rfl rfl rfl (by omega) (by omega) ?_
          | refine ev_quo rfl rfl rfl rfl (by omega) (by omega) (by simp only [hiK]; omega) ?_
          | refine ev_index rfl rfl tabOk rfl rfl rfl (by omega) (by omega) ?_
          | refine ev_indexA rfl rfl tabOk rfl rfl rfl (by omega) (by omega) rfl ?_
          | refine ev_convB rfl rfl tabOk rfl rfl rfl rfl ?_
          | refine ev_conv rfl rfl tabOk rfl rfl rfl (by simp only [lowK, hiK]; omega) ?_)
        refine ev_sliceStr rfl rfl tabOk rfl rfl rfl rfl (by omega) (by omega) (by omega) ?_
        rw [ed]
        have hwb : w.heap.size ≤ b := hb
        have hz5 := hf05.size
        have hf06 : Fr no w w6 := hf05.trans hf6 (fun c hc e => by have : b ≤ c := e; omega)
        have hf07 : Fr no w w7 := hf06.trans hf7 (fun c hc e => by
          rcases e with e | e
          · omega
          · have := hg6 c e; omega)
        have hz6 := hf06.size
        have hg7 : ∀ g, v7.ownBlock = some g → b ≤ g := fun g hg => by
          rcases hn7 g hg with h | h
          · exact hg6 g h
          · have := hf6.size; have := hB5.lt; omega
        have hcap7 : ¬ (capV v7 : Int) = 0 := by omega
        clear hI5 hB5 hf05 hf6 hB6 hf7
        repeat (first
          | refine stepF_ok tabOk [] (m := 400) rfl ?_
          | refine stepF_ok tabOk [] (m := 16) rfl ?_
          | refine stepF_ok tabOk [] (m := 3) rfl ?_
          | refine stepF_ok tabOk [] (m := 0) rfl ?_
          | refine ev_load rfl rfl tabOk rfl rfl (by assumption) ?_
          | refine ev_loadB rfl rfl tabOk rfl rfl (by assumption) (by rfl) ?_
          | refine ev_loadAggB rfl rfl tabOk rfl rfl (by assumption) (by rfl) ?_
          | refine ev_arith rfl rfl rfl rfl rfl (by simp only [lowK, hiK]; omega) ?_
          | refine ev_rem rfl rfl rfl rfl (by omega) (by omega) ?_
          | refine ev_quo rfl rfl rfl rfl (by omega) (by omega) (by simp only [hiK]; omega) ?_
          | refine ev_index rfl rfl tabOk rfl rfl rfl (by omega) (by omega) ?_
          | refine ev_indexA rfl rfl tabOk rfl rfl rfl (by omega) (by omega) rfl ?_
          | refine ev_convB rfl rfl tabOk rfl rfl rfl rfl ?_
          | refine ev_conv rfl rfl tabOk rfl rfl rfl (by simp only [lowK, hiK]; omega) ?_)
        refine ev_call rfl rfl rfl (bdCap b v7 _ _ hB7) (fun q w8 hq => ?_)
        obtain ⟨rfl, rfl⟩ := hq
        repeat (first
          | refine stepF_ok tabOk [] (m := 400) rfl ?_
          | refine stepF_ok tabOk [] (m := 16) rfl ?_
          | refine stepF_ok tabOk [] (m := 3) rfl ?_
          | refine stepF_ok tabOk [] (m := 0) rfl ?_
          | refine ev_load rfl rfl tabOk rfl rfl (by assumption) ?_
          | refine ev_loadB rfl rfl tabOk rfl rfl (by assumption) (by rfl) ?_
          | refine ev_loadAggB rfl rfl tabOk rfl rfl (by assumption) (by rfl) ?_
          | refine ev_arith rfl rfl rfl rfl rfl (by simp only [lowK, hiK]; omega) ?_
          | refine ev_rem rfl rfl rfl rfl (by omega) (by omega) ?_
          | refine ev_quo rfl rfl rfl rfl (by omega) (by omega) (by simp only [hiK]; omega) ?_
          | refine ev_index rfl rfl tabOk rfl rfl rfl (by omega) (by omega) ?_
          | refine ev_indexA rfl rfl tabOk rfl rfl rfl (by omega) (by omega) rfl ?_
          | refine ev_convB rfl rfl tabOk rfl rfl rfl rfl ?_
          | refine ev_conv rfl rfl tabOk rfl rfl rfl (by simp only [lowK, hiK]; omega) ?_)
        refine ev_condD rfl (fun e => absurd e hcap7) (fun _ => ?_)
        have hlen : l.length ≤ s.length := by omega
        have hl0 : 0 < l.length := by omega
        have hl128 : 128 ≤ (l.getD 0 0).toNat := by
          by_cases h : (l.getD 0 0).toNat < 128
          · exact absurd (asc_good hl0 h).1 hg
          · omega
        have hn1 : n = 1 := by omega
        have hbs0 : ([] ++ s.take pos : List UInt8).length = pos := by simp; omega
        repeat (first
          | refine stepF_ok tabOk [] (m := 400) rfl ?_
          | refine stepF_ok tabOk [] (m := 16) rfl ?_
          | refine stepF_ok tabOk [] (m := 3) rfl ?_
          | refine stepF_ok tabOk [] (m := 0) rfl ?_
          | refine ev_load rfl rfl tabOk rfl rfl (by assumption) ?_
          | refine ev_loadB rfl rfl tabOk rfl rfl (by assumption) (by rfl) ?_
          | refine ev_loadAggB rfl rfl tabOk rfl rfl (by assumption) (by rfl) ?_
          | refine ev_arith rfl rfl rfl rfl rfl (by simp only [lowK, hiK]; omega) ?_
          | refine ev_rem rfl rfl rfl rfl (by omega) (by omega) ?_
          | refine ev_quo rfl rfl rfl rfl (by omega) (by omega) (by simp only [hiK]; omega) ?_
          | refine ev_index rfl rfl tabOk rfl rfl rfl (by omega) (by omega) ?_
          | refine ev_indexA rfl rfl tabOk rfl rfl rfl (by omega) (by omega) rfl ?_
          | refine ev_convB rfl rfl tabOk rfl rfl rfl rfl ?_
          | refine ev_conv rfl rfl tabOk rfl rfl rfl (by simp only [lowK, hiK]; omega) ?_)
        refine ev_loop (α := Nat × Bool × Value × List UInt8) (fun y => [(0, sv l), (1, sv [63]), (5, .pointer (some ⟨b, 0, none⟩)), (10, .bool y.2.1), (11, .int .i64 y.1)])
          (fun y w' => y.1 ≤ l.length ∧ Bd w' b y.2.2.1 y.2.2.2 ∧ (y.1 = 0 → y.2.1 = false ∧ y.2.2.2 = s.take pos) ∧ (0 < y.1 → ∃ t, y.2.2.2 = s.take pos ++ 63 :: t) ∧ y.2.2.2.length ≤ pos + y.1 ∧ (∀ g, y.2.2.1.ownBlock = some g → b ≤ g) ∧ Fr no w w') (fun y => l.length - y.1)
          (0, false, v7, [] ++ s.take pos) ⟨rfl, rfl, rfl, rfl, rfl, trivial⟩ ⟨Nat.zero_le _, hB7, fun _ => ⟨rfl, rfl⟩, fun h => absurd h (by simp), by simp only; omega, hg7, hf07⟩ ?_
        clear hB7 hf07 hf06 hg7 hcap7 hbs0
        rintro ⟨k, inv, v, bs⟩ w9 ⟨hk, hB, hk0, hk1, hbl9, hg9, hf9⟩
        simp only at hk hB hk0 hk1 hbl9 hg9
        have hz9 := hf9.size
        have step : ∀ {w10 : World} {v' : Value} {t : List UInt8} {m : Nat}, Bd w10 b v' (bs ++ t) → Fr (BS b v) w9 w10 → NB w9 v v' → t.length ≤ m → (∀ g, v'.ownBlock = some g → b ≤ g) ∧ Fr no w w10 ∧ (bs ++ t).length ≤ pos + (k + m) ∧ (0 < k → ∃ u, bs ++ t = s.take pos ++ 63 :: u) := by
          intro w10 v' t m h1 h2 h3 h4
          refine ⟨fun g hg => ?_, hf9.trans h2 (fun c hc e => ?_), by rw [List.length_append]; omega, fun h => ?_⟩
          · rcases h3 g hg with h | h
            · exact hg9 g h
            · have := hB.lt; omega
          · rcases e with e | e
            · omega
            · have := hg9 c e; omega
          · obtain ⟨u, hu⟩ := hk1 h
            exact ⟨u ++ t, by rw [hu, List.append_assoc]; rfl⟩
        repeat (first
          | refine stepF_ok tabOk [] (m := 400) rfl ?_
          | refine stepF_ok tabOk [] (m := 16) rfl ?_
          | refine stepF_ok tabOk [] (m := 3) rfl ?_
          | refine stepF_ok tabOk [] (m := 0) rfl ?_
          | refine ev_load rfl rfl tabOk rfl rfl (by assumption) ?_
          | refine ev_loadB rfl rfl tabOk rfl rfl (by assumption) (by rfl) ?_
          | refine ev_loadAggB rfl rfl tabOk rfl rfl (by assumption) (by rfl) ?_
          | refine ev_arith rfl rfl rfl rfl rfl (by simp only [lowK, hiK]; omega) ?_
          | refine ev_rem rfl rfl rfl rfl (by omega) (by omega) ?_
          | refine ev_quo rfl rfl rfl rfl (by omega) (by omega) (by simp only [hiK]; omega) ?_
          | refine ev_index rfl rfl tabOk rfl rfl rfl (by omega) (by omega) ?_
          | refine ev_indexA rfl rfl tabOk rfl rfl rfl (by omega) (by omega) rfl ?_
          | refine ev_convB rfl rfl tabOk rfl rfl rfl rfl ?_
          | refine ev_conv rfl rfl tabOk rfl rfl rfl (by simp only [lowK, hiK]; omega) ?_)
        refine ev_condD rfl (fun hlt9 => ?_) (fun hlt9 => ?_)
        · have hkl : k < l.length := by omega
          have hgd : l.getD (k : Int).toNat 0 = (l.drop k).getD 0 0 := by rw [Int.toNat_natCast, List.getD_eq_getElem?_getD, List.getD_eq_getElem?_getD, List.getElem?_drop, Nat.add_zero]
          have hld : (l.drop k).length = l.length - k := List.length_drop
          have hwd1 := wid_pos (l.drop k)
          have hwd2 := wid_le (l := l.drop k) (by omega)
          have edk : (l.take (l.length : Int).toNat).drop (k : Int).toNat = l.drop k := by rw [Int.toNat_natCast, Int.toNat_natCast, List.take_length]
          have etk := take_drop l k (wid (l.drop k))
          have hd0 : k = 0 → l.drop k = l := fun e => by rw [e]; rfl
          obtain ⟨m, hm⟩ : ∃ m, m = l.drop k := ⟨_, rfl⟩
          rw [← hm] at hgd hld hwd1 hwd2 edk etk hd0
          repeat (first
            | refine stepF_ok tabOk [] (m := 400) rfl ?_
            | refine stepF_ok tabOk [] (m := 16) rfl ?_
            | refine stepF_ok tabOk [] (m := 3) rfl ?_
            | refine stepF_ok tabOk [] (m := 0) rfl ?_
            | refine ev_load rfl rfl tabOk rfl rfl (by assumption) ?_
            | refine ev_loadB rfl rfl tabOk rfl rfl (by assumption) (by rfl) ?_
            | refine ev_loadAggB rfl rfl tabOk rfl rfl (by assumption) (by rfl) ?_
            | refine ev_arith rfl rfl rfl rfl rfl (by simp only [lowK, hiK]; omega) ?_
            | refine ev_rem rfl rfl rfl rfl (by omega) (by omega) ?_
            | refine ev_quo rfl rfl rfl rfl (by omega) (by omega) (by simp only [hiK]; omega) ?_
            | refine ev_index rfl rfl tabOk rfl rfl rfl (by omega) (by omega) ?_
            | refine ev_indexA rfl rfl tabOk rfl rfl rfl (by omega) (by omega) rfl ?_
            | refine ev_convB rfl rfl tabOk rfl rfl rfl rfl ?_
            | refine ev_conv rfl rfl tabOk rfl rfl rfl (by simp only [lowK, hiK]; omega) ?_)
          rw [hgd]
          have hmlt := (m.getD 0 0).toNat_lt
          refine ev_condD rfl (fun h9 => ?_) (fun h9 => ?_)
          · have hk00 : 0 < k := by
              by_cases e : k = 0
              · exfalso; have := hd0 e; subst this; omega
              · omega
            repeat (first
              | refine stepF_ok tabOk [] (m := 400) rfl ?_
              | refine stepF_ok tabOk [] (m := 16) rfl ?_
              | refine stepF_ok tabOk [] (m := 3) rfl ?_
              | refine stepF_ok tabOk [] (m := 0) rfl ?_
              | refine ev_load rfl rfl tabOk rfl rfl (by assumption) ?_
              | refine ev_loadB rfl rfl tabOk rfl rfl (by assumption) (by rfl) ?_
              | refine ev_loadAggB rfl rfl tabOk rfl rfl (by assumption) (by rfl) ?_
              | refine ev_arith rfl rfl rfl rfl rfl (by simp only [lowK, hiK]; omega) ?_
              | refine ev_rem rfl rfl rfl rfl (by omega) (by omega) ?_
              | refine ev_quo rfl rfl rfl rfl (by omega) (by omega) (by simp only [hiK]; omega) ?_
              | refine ev_index rfl rfl tabOk rfl rfl rfl (by omega) (by omega) ?_
              | refine ev_indexA rfl rfl tabOk rfl rfl rfl (by omega) (by omega) rfl ?_
              | refine ev_convB rfl rfl tabOk rfl rfl rfl rfl ?_
              | refine ev_conv rfl rfl tabOk rfl rfl rfl (by simp only [lowK, hiK]; omega) ?_)
            refine ev_call rfl rfl rfl (bdByte b v bs (m.getD 0 0) _ hB (by omega)) (fun q w10 hq => ?_)
            obtain ⟨v', hB', hf', hn'⟩ := hq
            obtain ⟨s1, s2, s3, s4⟩ := step (m := 1) hB' hf' hn' (by simp)
            repeat (first
              | refine stepF_ok tabOk [] (m := 400) rfl ?_
              | refine stepF_ok tabOk [] (m := 16) rfl ?_
              | refine stepF_ok tabOk [] (m := 3) rfl ?_
              | refine stepF_ok tabOk [] (m := 0) rfl ?_
              | refine ev_load rfl rfl tabOk rfl rfl (by assumption) ?_
              | refine ev_loadB rfl rfl tabOk rfl rfl (by assumption) (by rfl) ?_
              | refine ev_loadAggB rfl rfl tabOk rfl rfl (by assumption) (by rfl) ?_
              | refine ev_arith rfl rfl rfl rfl rfl (by simp only [lowK, hiK]; omega) ?_
              | refine ev_rem rfl rfl rfl rfl (by omega) (by omega) ?_
              | refine ev_quo rfl rfl rfl rfl (by omega) (by omega) (by simp only [hiK]; omega) ?_
              | refine ev_index rfl rfl tabOk rfl rfl rfl (by omega) (by omega) ?_
              | refine ev_indexA rfl rfl tabOk rfl rfl rfl (by omega) (by omega) rfl ?_
              | refine ev_convB rfl rfl tabOk rfl rfl rfl rfl ?_
              | refine ev_conv rfl rfl tabOk rfl rfl rfl (by simp only [lowK, hiK]; omega) ?_)
            exact ev_next (k + 1, false, v', bs ++ [m.getD 0 0]) (by simp only; omega) ⟨by simp only; omega, hB', fun e => absurd e (by simp), fun _ => s4 hk00, s3, s1, s2⟩ ⟨rfl, rfl, rfl, rfl, rfl, trivial⟩
          · repeat (first
              | refine stepF_ok tabOk [] (m := 400) rfl ?_
              | refine stepF_ok tabOk [] (m := 16) rfl ?_
              | refine stepF_ok tabOk [] (m := 3) rfl ?_
              | refine stepF_ok tabOk [] (m := 0) rfl ?_
              | refine ev_load rfl rfl tabOk rfl rfl (by assumption) ?_
              | refine ev_loadB rfl rfl tabOk rfl rfl (by assumption) (by rfl) ?_
              | refine ev_loadAggB rfl rfl tabOk rfl rfl (by assumption) (by rfl) ?_
              | refine ev_arith rfl rfl rfl rfl rfl (by simp only [lowK, hiK]; omega) ?_
              | refine ev_rem rfl rfl rfl rfl (by omega) (by omega) ?_
              | refine ev_quo rfl rfl rfl rfl (by omega) (by omega) (by simp only [hiK]; omega) ?_
              | refine ev_index rfl rfl tabOk rfl rfl rfl (by omega) (by omega) ?_
              | refine ev_indexA rfl rfl tabOk rfl rfl rfl (by omega) (by omega) rfl ?_
              | refine ev_convB rfl rfl tabOk rfl rfl rfl rfl ?_
              | refine ev_conv rfl rfl tabOk rfl rfl rfl (by simp only [lowK, hiK]; omega) ?_)
            refine ev_sliceStr rfl rfl tabOk rfl rfl rfl rfl (by omega) (by omega) (by omega) ?_
            rw [edk]
            refine ev_call rfl rfl rfl (decRune m _ (by omega) (by omega) (hT.fr0 hf9)) (fun q w10 hq => ?_)
            obtain ⟨⟨r10, rfl, _⟩, hf10⟩ := hq
            have hB10 := hB.fr0 hf10
            have hn0 : k = 0 → wid m = 1 := fun e => by rw [hd0 e]; omega
            obtain ⟨nm, hnm⟩ : ∃ nm, nm = wid m := ⟨_, rfl⟩
            rw [← hnm] at hwd1 hwd2 etk hn0 ⊢
            repeat (first
              | refine stepF_ok tabOk [] (m := 400) rfl ?_
              | refine stepF_ok tabOk [] (m := 16) rfl ?_
              | refine stepF_ok tabOk [] (m := 3) rfl ?_
              | refine stepF_ok tabOk [] (m := 0) rfl ?_
              | refine ev_load rfl rfl tabOk rfl rfl (by assumption) ?_
              | refine ev_loadB rfl rfl tabOk rfl rfl (by assumption) (by rfl) ?_
              | refine ev_loadAggB rfl rfl tabOk rfl rfl (by assumption) (by rfl) ?_
              | refine ev_arith rfl rfl rfl rfl rfl (by simp only [lowK, hiK]; omega) ?_
              | refine ev_rem rfl rfl rfl rfl (by omega) (by omega) ?_
              | refine ev_quo rfl rfl rfl rfl (by omega) (by omega) (by simp only [hiK]; omega) ?_
              | refine ev_index rfl rfl tabOk rfl rfl rfl (by omega) (by omega) ?_
              | refine ev_indexA rfl rfl tabOk rfl rfl rfl (by omega) (by omega) rfl ?_
              | refine ev_convB rfl rfl tabOk rfl rfl rfl rfl ?_
              | refine ev_conv rfl rfl tabOk rfl rfl rfl (by simp only [lowK, hiK]; omega) ?_)
            refine ev_condD rfl (fun h10 => ?_) (fun h10 => ?_)
            · repeat (first
                | refine stepF_ok tabOk [] (m := 400) rfl ?_
                | refine stepF_ok tabOk [] (m := 16) rfl ?_
                | refine stepF_ok tabOk [] (m := 3) rfl ?_
                | refine stepF_ok tabOk [] (m := 0) rfl ?_
                | refine ev_load rfl rfl tabOk rfl rfl (by assumption) ?_
                | refine ev_loadB rfl rfl tabOk rfl rfl (by assumption) (by rfl) ?_
                | refine ev_loadAggB rfl rfl tabOk rfl rfl (by assumption) (by rfl) ?_
                | refine ev_arith rfl rfl rfl rfl rfl (by simp only [lowK, hiK]; omega) ?_
                | refine ev_rem rfl rfl rfl rfl (by omega) (by omega) ?_
                | refine ev_quo rfl rfl rfl rfl (by omega) (by omega) (by simp only [hiK]; omega) ?_
                | refine ev_index rfl rfl tabOk rfl rfl rfl (by omega) (by omega) ?_
                | refine ev_indexA rfl rfl tabOk rfl rfl rfl (by omega) (by omega) rfl ?_
                | refine ev_convB rfl rfl tabOk rfl rfl rfl rfl ?_
                | refine ev_conv rfl rfl tabOk rfl rfl rfl (by simp only [lowK, hiK]; omega) ?_)
              refine ev_cond (b := !inv) rfl (fun h11 => ?_) (fun h11 => ?_)
              · repeat (first
                  | refine stepF_ok tabOk [] (m := 400) rfl ?_
                  | refine stepF_ok tabOk [] (m := 16) rfl ?_
                  | refine stepF_ok tabOk [] (m := 3) rfl ?_
                  | refine stepF_ok tabOk [] (m := 0) rfl ?_
                  | refine ev_load rfl rfl tabOk rfl rfl (by assumption) ?_
                  | refine ev_loadB rfl rfl tabOk rfl rfl (by assumption) (by rfl) ?_
                  | refine ev_loadAggB rfl rfl tabOk rfl rfl (by assumption) (by rfl) ?_
                  | refine ev_arith rfl rfl rfl rfl rfl (by simp only [lowK, hiK]; omega) ?_
                  | refine ev_rem rfl rfl rfl rfl (by omega) (by omega) ?_
                  | refine ev_quo rfl rfl rfl rfl (by omega) (by omega) (by simp only [hiK]; omega) ?_
                  | refine ev_index rfl rfl tabOk rfl rfl rfl (by omega) (by omega) ?_
                  | refine ev_indexA rfl rfl tabOk rfl rfl rfl (by omega) (by omega) rfl ?_
                  | refine ev_convB rfl rfl tabOk rfl rfl rfl rfl ?_
                  | refine ev_conv rfl rfl tabOk rfl rfl rfl (by simp only [lowK, hiK]; omega) ?_)
                refine ev_call rfl rfl rfl (bdWrite b v bs [63] _ hB10 (by omega)) (fun q w11 hq => ?_)
                obtain ⟨v', hB', hf', hn'⟩ := hq
                obtain ⟨s1, s2, s3, s4⟩ := step (m := 1) hB' ((hf10.mono fun _ _ e => e.elim).trans hf' (fun _ _ e => e)) (fun g hg => by
                  rcases hn' g hg with h | h
                  · exact .inl h
                  · exact .inr (Nat.le_trans hf10.size h)) (by simp)
                repeat (first
                  | refine stepF_ok tabOk [] (m := 400) rfl ?_
                  | refine stepF_ok tabOk [] (m := 16) rfl ?_
                  | refine stepF_ok tabOk [] (m := 3) rfl ?_
                  | refine stepF_ok tabOk [] (m := 0) rfl ?_
                  | refine ev_load rfl rfl tabOk rfl rfl (by assumption) ?_
                  | refine ev_loadB rfl rfl tabOk rfl rfl (by assumption) (by rfl) ?_
                  | refine ev_loadAggB rfl rfl tabOk rfl rfl (by assumption) (by rfl) ?_
                  | refine ev_arith rfl rfl rfl rfl rfl (by simp only [lowK, hiK]; omega) ?_
                  | refine ev_rem rfl rfl rfl rfl (by omega) (by omega) ?_
                  | refine ev_quo rfl rfl rfl rfl (by omega) (by omega) (by simp only [hiK]; omega) ?_
                  | refine ev_index rfl rfl tabOk rfl rfl rfl (by omega) (by omega) ?_
                  | refine ev_indexA rfl rfl tabOk rfl rfl rfl (by omega) (by omega) rfl ?_
                  | refine ev_convB rfl rfl tabOk rfl rfl rfl rfl ?_
                  | refine ev_conv rfl rfl tabOk rfl rfl rfl (by simp only [lowK, hiK]; omega) ?_)
                refine ev_next (k + 1, true, v', bs ++ [63]) (by simp only; omega) ⟨by simp only; omega, hB', fun e => absurd e (by simp), fun _ => ?_, s3, s1, s2⟩ ⟨rfl, rfl, rfl, rfl, rfl, trivial⟩
                by_cases e : k = 0
                · exact ⟨[], by simp only; rw [(hk0 e).2]⟩
                · exact s4 (by omega)
              · have hinv : inv = true := by simpa using h11
                subst hinv
                have hk00 : 0 < k := by
                  by_cases e : k = 0
                  · have := (hk0 e).1; cases this
                  · omega
                repeat (first
                  | refine stepF_ok tabOk [] (m := 400) rfl ?_
                  | refine stepF_ok tabOk [] (m := 16) rfl ?_
                  | refine stepF_ok tabOk [] (m := 3) rfl ?_
                  | refine stepF_ok tabOk [] (m := 0) rfl ?_
                  | refine ev_load rfl rfl tabOk rfl rfl (by assumption) ?_
                  | refine ev_loadB rfl rfl tabOk rfl rfl (by assumption) (by rfl) ?_
                  | refine ev_loadAggB rfl rfl tabOk rfl rfl (by assumption) (by rfl) ?_
                  | refine ev_arith rfl rfl rfl rfl rfl (by simp only [lowK, hiK]; omega) ?_
                  | refine ev_rem rfl rfl rfl rfl (by omega) (by omega) ?_
                  | refine ev_quo rfl rfl rfl rfl (by omega) (by omega) (by simp only [hiK]; omega) ?_
                  | refine ev_index rfl rfl tabOk rfl rfl rfl (by omega) (by omega) ?_
                  | refine ev_indexA rfl rfl tabOk rfl rfl rfl (by omega) (by omega) rfl ?_
                  | refine ev_convB rfl rfl tabOk rfl rfl rfl rfl ?_
                  | refine ev_conv rfl rfl tabOk rfl rfl rfl (by simp only [lowK, hiK]; omega) ?_)
                exact ev_next (k + 1, true, v, bs) (by simp only; omega) ⟨by simp only; omega, hB10, fun e => absurd e (by simp), fun _ => hk1 hk00, by simp only; omega, hg9, hf9.tr hf10⟩ ⟨rfl, rfl, rfl, rfl, rfl, trivial⟩
            · have hk00 : 0 < k := by
                by_cases e : k = 0
                · exact absurd (by have := hn0 e; omega) h10
                · omega
              repeat (first
                | refine stepF_ok tabOk [] (m := 400) rfl ?_
                | refine stepF_ok tabOk [] (m := 16) rfl ?_
                | refine stepF_ok tabOk [] (m := 3) rfl ?_
                | refine stepF_ok tabOk [] (m := 0) rfl ?_
                | refine ev_load rfl rfl tabOk rfl rfl (by assumption) ?_
                | refine ev_loadB rfl rfl tabOk rfl rfl (by assumption) (by rfl) ?_
                | refine ev_loadAggB rfl rfl tabOk rfl rfl (by assumption) (by rfl) ?_
                | refine ev_arith rfl rfl rfl rfl rfl (by simp only [lowK, hiK]; omega) ?_
                | refine ev_rem rfl rfl rfl rfl (by omega) (by omega) ?_
                | refine ev_quo rfl rfl rfl rfl (by omega) (by omega) (by simp only [hiK]; omega) ?_
                | refine ev_index rfl rfl tabOk rfl rfl rfl (by omega) (by omega) ?_
                | refine ev_indexA rfl rfl tabOk rfl rfl rfl (by omega) (by omega) rfl ?_
                | refine ev_convB rfl rfl tabOk rfl rfl rfl rfl ?_
                | refine ev_conv rfl rfl tabOk rfl rfl rfl (by simp only [lowK, hiK]; omega) ?_)
              refine ev_sliceStr rfl rfl tabOk rfl rfl rfl rfl (by omega) (by omega) (by omega) ?_
              rw [show ((k : Int) + (nm : Int)).toNat = k + nm by omega, Int.toNat_natCast, etk]
              refine ev_call rfl rfl rfl (bdWrite b v bs (m.take nm) _ hB10 (by rw [List.length_take]; omega)) (fun q w11 hq => ?_)
              obtain ⟨v', hB', hf', hn'⟩ := hq
              obtain ⟨s1, s2, s3, s4⟩ := step (m := nm) hB' ((hf10.mono fun _ _ e => e.elim).trans hf' (fun _ _ e => e)) (fun g hg => by
                rcases hn' g hg with h | h
                · exact .inl h
                · exact .inr (Nat.le_trans hf10.size h)) (by rw [List.length_take]; omega)
              repeat (first
                | refine stepF_ok tabOk [] (m := 400) rfl ?_
                | refine stepF_ok tabOk [] (m := 16) rfl ?_
                | refine stepF_ok tabOk [] (m := 3) rfl ?_
                | refine stepF_ok tabOk [] (m := 0) rfl ?_
                | refine ev_load rfl rfl tabOk rfl rfl (by assumption) ?_
                | refine ev_loadB rfl rfl tabOk rfl rfl (by assumption) (by rfl) ?_
                | refine ev_loadAggB rfl rfl tabOk rfl rfl (by assumption) (by rfl) ?_
                | refine ev_arith rfl rfl rfl rfl rfl (by simp only [lowK, hiK]; omega) ?_
                | refine ev_rem rfl rfl rfl rfl (by omega) (by omega) ?_
                | refine ev_quo rfl rfl rfl rfl (by omega) (by omega) (by simp only [hiK]; omega) ?_
                | refine ev_index rfl rfl tabOk rfl rfl rfl (by omega) (by omega) ?_
                | refine ev_indexA rfl rfl tabOk rfl rfl rfl (by omega) (by omega) rfl ?_
                | refine ev_convB rfl rfl tabOk rfl rfl rfl rfl ?_
                | refine ev_conv rfl rfl tabOk rfl rfl rfl (by simp only [lowK, hiK]; omega) ?_)
              exact ev_next (k + nm, false, v', bs ++ m.take nm) (by simp only; omega) ⟨by simp only; omega, hB', fun e => absurd e (by simp only; omega), fun _ => s4 hk00, s3, s1, s2⟩ ⟨rfl, rfl, rfl, rfl, rfl, trivial⟩
        · repeat (first
            | refine stepF_ok tabOk [] (m := 400) rfl ?_
            | refine stepF_ok tabOk [] (m := 16) rfl ?_
            | refine stepF_ok tabOk [] (m := 3) rfl ?_
            | refine stepF_ok tabOk [] (m := 0) rfl ?_
            | refine ev_load rfl rfl tabOk rfl rfl (by assumption) ?_
            | refine ev_loadB rfl rfl tabOk rfl rfl (by assumption) (by rfl) ?_
            | refine ev_loadAggB rfl rfl tabOk rfl rfl (by assumption) (by rfl) ?_
            | refine ev_arith rfl rfl rfl rfl rfl (by simp only [lowK, hiK]; omega) ?_
            | refine ev_rem rfl rfl rfl rfl (by omega) (by omega) ?_
            | refine ev_quo rfl rfl rfl rfl (by omega) (by omega) (by simp only [hiK]; omega) ?_
            | refine ev_index rfl rfl tabOk rfl rfl rfl (by omega) (by omega) ?_
            | refine ev_indexA rfl rfl tabOk rfl rfl rfl (by omega) (by omega) rfl ?_
            | refine ev_convB rfl rfl tabOk rfl rfl rfl rfl ?_
            | refine ev_conv rfl rfl tabOk rfl rfl rfl (by simp only [lowK, hiK]; omega) ?_)
          refine ev_call rfl rfl rfl (bdString b v bs _ hB) (fun q w10 hq => ?_)
          obtain ⟨rfl, hf10⟩ := hq
          repeat (first
            | refine stepF_ok tabOk [] (m := 400) rfl ?_
            | refine stepF_ok tabOk [] (m := 16) rfl ?_
            | refine stepF_ok tabOk [] (m := 3) rfl ?_
            | refine stepF_ok tabOk [] (m := 0) rfl ?_
            | refine ev_load rfl rfl tabOk rfl rfl (by assumption) ?_
            | refine ev_loadB rfl rfl tabOk rfl rfl (by assumption) (by rfl) ?_
            | refine ev_loadAggB rfl rfl tabOk rfl rfl (by assumption) (by rfl) ?_
            | refine ev_arith rfl rfl rfl rfl rfl (by simp only [lowK, hiK]; omega) ?_
            | refine ev_rem rfl rfl rfl rfl (by omega) (by omega) ?_
            | refine ev_quo rfl rfl rfl rfl (by omega) (by omega) (by simp only [hiK]; omega) ?_
            | refine ev_index rfl rfl tabOk rfl rfl rfl (by omega) (by omega) ?_
            | refine ev_indexA rfl rfl tabOk rfl rfl rfl (by omega) (by omega) rfl ?_
            | refine ev_convB rfl rfl tabOk rfl rfl rfl rfl ?_
            | refine ev_conv rfl rfl tabOk rfl rfl rfl (by simp only [lowK, hiK]; omega) ?_)
          obtain ⟨u, hu⟩ := hk1 (by omega)
          refine ret1 (.inr rfl) rfl rfl ⟨⟨bs, rfl, ⟨fun e => ?_, fun e => absurd e hne⟩⟩, hf9.trans hf10 (fun c hc e => by
            rcases e with e | e
            · omega
            · have := hg9 c e; omega)⟩
          exfalso
          have e2 : s.take pos ++ 63 :: u = s.take pos ++ s.drop pos := by rw [← hu, e, List.take_append_drop]
          have e3 := List.append_cancel_left e2
          rw [← hl] at e3
          rw [← e3] at hl128
          exact absurd (show 128 ≤ 63 from hl128) (by decide)
      · have hg : good l := by
          by_cases hg : good l
          · exact hg
          · exact absurd (by have := (hd.2.1 hg).2; omega) h2
        repeat (first
          | refine stepF_ok tabOk [] (m := 400) rfl ?_
          | refine stepF_ok tabOk [] (m := 16) rfl ?_
          | refine stepF_ok tabOk [] (m := 3) rfl ?_
          | refine stepF_ok tabOk [] (m := 0) rfl ?_
          | refine ev_load rfl rfl tabOk rfl rfl (by assumption) ?_
          | refine ev_loadB rfl rfl tabOk rfl rfl (by assumption) (by rfl) ?_
          | refine ev_loadAggB rfl rfl tabOk rfl rfl (by assumption) (by rfl) ?_
          | refine ev_arith rfl rfl rfl rfl rfl (by simp only [lowK, hiK]; omega) ?_
          | refine ev_rem rfl rfl rfl rfl (by omega) (by omega) ?_
          | refine ev_quo rfl rfl rfl rfl (by omega) (by omega) (by simp only [hiK]; omega) ?_
          | refine ev_index rfl rfl tabOk rfl rfl rfl (by omega) (by omega) ?_
          | refine ev_indexA rfl rfl tabOk rfl rfl rfl (by omega) (by omega) rfl ?_
          | refine ev_convB rfl rfl tabOk rfl rfl rfl rfl ?_
          | refine ev_conv rfl rfl tabOk rfl rfl rfl (by simp only [lowK, hiK]; omega) ?_)
        exact ev_next (pos + n) (by omega) ⟨by omega, hI5, hB5, go hg, hf05⟩ ⟨rfl, rfl, rfl, rfl, trivial⟩
  · have hp : s.drop pos = [] := List.drop_eq_nil_of_le (by omega)
    have hps : pos = s.length := by omega
    subst hps
    rw [hp, clean_nil, List.append_nil, List.take_length] at hcl
    repeat (first
      | refine stepF_ok tabOk [] (m := 400) rfl ?_
      | refine stepF_ok tabOk [] (m := 16) rfl ?_
      | refine stepF_ok tabOk [] (m := 3) rfl ?_
      | refine stepF_ok tabOk [] (m := 0) rfl ?_
      | refine ev_load rfl rfl tabOk rfl rfl (by assumption) ?_
      | refine ev_loadB rfl rfl tabOk rfl rfl (by assumption) (by rfl) ?_
      | refine ev_loadAggB rfl rfl tabOk rfl rfl (by assumption) (by rfl) ?_
      | refine ev_arith rfl rfl rfl rfl rfl (by simp only [lowK, hiK]; omega) ?_
      | refine ev_rem rfl rfl rfl rfl (by omega) (by omega) ?_
      | refine ev_quo rfl rfl rfl rfl (by omega) (by omega) (by simp only [hiK]; omega) ?_
      | refine ev_index rfl rfl tabOk rfl rfl rfl (by omega) (by omega) ?_
      | refine ev_indexA rfl rfl tabOk rfl rfl rfl (by omega) (by omega) rfl ?_
      | refine ev_convB rfl rfl tabOk rfl rfl rfl rfl ?_
      | refine ev_conv rfl rfl tabOk rfl rfl rfl (by simp only [lowK, hiK]; omega) ?_)
    refine ev_call rfl rfl rfl (bdCap b (.slice none 0 0) [] _ ⟨.pointer none, .inl rfl, hB, Own.nil _ _ _, by simp [Value.ownBlock]⟩) (fun q w5 hq => ?_)
    obtain ⟨rfl, rfl⟩ := hq
    repeat (first
      | refine stepF_ok tabOk [] (m := 400) rfl ?_
      | refine stepF_ok tabOk [] (m := 16) rfl ?_
      | refine stepF_ok tabOk [] (m := 3) rfl ?_
      | refine stepF_ok tabOk [] (m := 0) rfl ?_
      | refine ev_load rfl rfl tabOk rfl rfl (by assumption) ?_
      | refine ev_loadB rfl rfl tabOk rfl rfl (by assumption) (by rfl) ?_
      | refine ev_loadAggB rfl rfl tabOk rfl rfl (by assumption) (by rfl) ?_
      | refine ev_arith rfl rfl rfl rfl rfl (by simp only [lowK, hiK]; omega) ?_
      | refine ev_rem rfl rfl rfl rfl (by omega) (by omega) ?_
      | refine ev_quo rfl rfl rfl rfl (by omega) (by omega) (by simp only [hiK]; omega) ?_
      | refine ev_index rfl rfl tabOk rfl rfl rfl (by omega) (by omega) ?_
      | refine ev_indexA rfl rfl tabOk rfl rfl rfl (by omega) (by omega) rfl ?_
      | refine ev_convB rfl rfl tabOk rfl rfl rfl rfl ?_
      | refine ev_conv rfl rfl tabOk rfl rfl rfl (by simp only [lowK, hiK]; omega) ?_)
    exact ret1 (.inr rfl) rfl rfl ⟨⟨s, rfl, ⟨fun _ => hcl, fun _ => rfl⟩⟩, hf⟩

theorem lawCleans (s : List UInt8) (w : World) (hs : s.length ≤ 10000000) (hT : UT w) :
    CallsF Tryd.prog 7 [sv s] w fun r w' => r = .bool true ∧ Fr no w w' := by
  have hcl := clean_len s
  have hcc := clean_clean s
  refine callsF Tryd.func7 rfl rfl (by decide) rfl ?_
  repeat (first
    | refine stepF_ok tabOk [] (m := 400) rfl ?_
    | refine stepF_ok tabOk [] (m := 16) rfl ?_
    | refine stepF_ok tabOk [] (m := 3) rfl ?_
    | refine stepF_ok tabOk [] (m := 0) rfl ?_
    | refine ev_load rfl rfl tabOk rfl rfl (by assumption) ?_
    | refine ev_loadB rfl rfl tabOk rfl rfl (by assumption) (by rfl) ?_
    | refine ev_loadAggB rfl rfl tabOk rfl rfl (by assumption) (by rfl) ?_
    | refine ev_arith rfl rfl rfl rfl rfl (by simp only [lowK, hiK]; omega) ?_
    | refine ev_rem rfl rfl rfl rfl (by omega) (by omega) ?_
    | refine ev_quo rfl rfl rfl rfl (by omega) (by omega) (by simp only [hiK]; omega) ?_
    | refine ev_index rfl rfl tabOk rfl rfl rfl (by omega) (by omega) ?_
    | refine ev_indexA rfl rfl tabOk rfl rfl rfl (by omega) (by omega) rfl ?_
    | refine ev_convB rfl rfl tabOk rfl rfl rfl rfl ?_
    | refine ev_conv rfl rfl tabOk rfl rfl rfl (by simp only [lowK, hiK]; omega) ?_)
  refine ev_call rfl rfl rfl (lawAwake _ hT) (fun r w1 hr => ?_)
  obtain ⟨rfl, hf1⟩ := hr
  repeat (first
    | refine stepF_ok tabOk [] (m := 400) rfl ?_
    | refine stepF_ok tabOk [] (m := 16) rfl ?_
    | refine stepF_ok tabOk [] (m := 3) rfl ?_
    | refine stepF_ok tabOk [] (m := 0) rfl ?_
    | refine ev_load rfl rfl tabOk rfl rfl (by assumption) ?_
    | refine ev_loadB rfl rfl tabOk rfl rfl (by assumption) (by rfl) ?_
    | refine ev_loadAggB rfl rfl tabOk rfl rfl (by assumption) (by rfl) ?_
    | refine ev_arith rfl rfl rfl rfl rfl (by simp only [lowK, hiK]; omega) ?_
    | refine ev_rem rfl rfl rfl rfl (by omega) (by omega) ?_
    | refine ev_quo rfl rfl rfl rfl (by omega) (by omega) (by simp only [hiK]; omega) ?_
    | refine ev_index rfl rfl tabOk rfl rfl rfl (by omega) (by omega) ?_
    | refine ev_indexA rfl rfl tabOk rfl rfl rfl (by omega) (by omega) rfl ?_
    | refine ev_convB rfl rfl tabOk rfl rfl rfl rfl ?_
    | refine ev_conv rfl rfl tabOk rfl rfl rfl (by simp only [lowK, hiK]; omega) ?_)
  refine ev_call rfl rfl rfl (wClean s _ (by omega) (hT.fr0 hf1)) (fun r w2 hr => ?_)
  obtain ⟨rfl, hf2⟩ := hr
  have hf2 := hf1.tr hf2
  repeat (first
    | refine stepF_ok tabOk [] (m := 400) rfl ?_
    | refine stepF_ok tabOk [] (m := 16) rfl ?_
    | refine stepF_ok tabOk [] (m := 3) rfl ?_
    | refine stepF_ok tabOk [] (m := 0) rfl ?_
    | refine ev_load rfl rfl tabOk rfl rfl (by assumption) ?_
    | refine ev_loadB rfl rfl tabOk rfl rfl (by assumption) (by rfl) ?_
    | refine ev_loadAggB rfl rfl tabOk rfl rfl (by assumption) (by rfl) ?_
    | refine ev_arith rfl rfl rfl rfl rfl (by simp only [lowK, hiK]; omega) ?_
    | refine ev_rem rfl rfl rfl rfl (by omega) (by omega) ?_
    | refine ev_quo rfl rfl rfl rfl (by omega) (by omega) (by simp only [hiK]; omega) ?_
    | refine ev_index rfl rfl tabOk rfl rfl rfl (by omega) (by omega) ?_
    | refine ev_indexA rfl rfl tabOk rfl rfl rfl (by omega) (by omega) rfl ?_
    | refine ev_convB rfl rfl tabOk rfl rfl rfl rfl ?_
    | refine ev_conv rfl rfl tabOk rfl rfl rfl (by simp only [lowK, hiK]; omega) ?_)
  refine ev_call rfl rfl rfl (refClean s _ (by omega)) (fun r w3 hr => ?_)
  obtain ⟨rfl, hf3⟩ := hr
  have hf3 := hf2.tr hf3
  repeat (first
    | refine stepF_ok tabOk [] (m := 400) rfl ?_
    | refine stepF_ok tabOk [] (m := 16) rfl ?_
    | refine stepF_ok tabOk [] (m := 3) rfl ?_
    | refine stepF_ok tabOk [] (m := 0) rfl ?_
    | refine ev_load rfl rfl tabOk rfl rfl (by assumption) ?_
    | refine ev_loadB rfl rfl tabOk rfl rfl (by assumption) (by rfl) ?_
    | refine ev_loadAggB rfl rfl tabOk rfl rfl (by assumption) (by rfl) ?_
    | refine ev_arith rfl rfl rfl rfl rfl (by simp only [lowK, hiK]; omega) ?_
    | refine ev_rem rfl rfl rfl rfl (by omega) (by omega) ?_
    | refine ev_quo rfl rfl rfl rfl (by omega) (by omega) (by simp only [hiK]; omega) ?_
    | refine ev_index rfl rfl tabOk rfl rfl rfl (by omega) (by omega) ?_
    | refine ev_indexA rfl rfl tabOk rfl rfl rfl (by omega) (by omega) rfl ?_
    | refine ev_convB rfl rfl tabOk rfl rfl rfl rfl ?_
    | refine ev_conv rfl rfl tabOk rfl rfl rfl (by simp only [lowK, hiK]; omega) ?_)
  refine ev_guardD rfl rfl (fun e => absurd rfl e) (fun _ => ?_)
  repeat (first
    | refine stepF_ok tabOk [] (m := 400) rfl ?_
    | refine stepF_ok tabOk [] (m := 16) rfl ?_
    | refine stepF_ok tabOk [] (m := 3) rfl ?_
    | refine stepF_ok tabOk [] (m := 0) rfl ?_
    | refine ev_load rfl rfl tabOk rfl rfl (by assumption) ?_
    | refine ev_loadB rfl rfl tabOk rfl rfl (by assumption) (by rfl) ?_
    | refine ev_loadAggB rfl rfl tabOk rfl rfl (by assumption) (by rfl) ?_
    | refine ev_arith rfl rfl rfl rfl rfl (by simp only [lowK, hiK]; omega) ?_
    | refine ev_rem rfl rfl rfl rfl (by omega) (by omega) ?_
    | refine ev_quo rfl rfl rfl rfl (by omega) (by omega) (by simp only [hiK]; omega) ?_
    | refine ev_index rfl rfl tabOk rfl rfl rfl (by omega) (by omega) ?_
    | refine ev_indexA rfl rfl tabOk rfl rfl rfl (by omega) (by omega) rfl ?_
    | refine ev_convB rfl rfl tabOk rfl rfl rfl rfl ?_
    | refine ev_conv rfl rfl tabOk rfl rfl rfl (by simp only [lowK, hiK]; omega) ?_)
  refine ev_call rfl rfl rfl (wClean (clean s) _ (by omega) (hT.fr0 hf3)) (fun r w4 hr => ?_)
  obtain ⟨rfl, hf4⟩ := hr
  have hf4 := hf3.tr hf4
  rw [hcc]
  repeat (first
    | refine stepF_ok tabOk [] (m := 400) rfl ?_
    | refine stepF_ok tabOk [] (m := 16) rfl ?_
    | refine stepF_ok tabOk [] (m := 3) rfl ?_
    | refine stepF_ok tabOk [] (m := 0) rfl ?_
    | refine ev_load rfl rfl tabOk rfl rfl (by assumption) ?_
    | refine ev_loadB rfl rfl tabOk rfl rfl (by assumption) (by rfl) ?_
    | refine ev_loadAggB rfl rfl tabOk rfl rfl (by assumption) (by rfl) ?_
    | refine ev_arith rfl rfl rfl rfl rfl (by simp only [lowK, hiK]; omega) ?_
    | refine ev_rem rfl rfl rfl rfl (by omega) (by omega) ?_
    | refine ev_quo rfl rfl rfl rfl (by omega) (by omega) (by simp only [hiK]; omega) ?_
    | refine ev_index rfl rfl tabOk rfl rfl rfl (by omega) (by omega) ?_
    | refine ev_indexA rfl rfl tabOk rfl rfl rfl (by omega) (by omega) rfl ?_
    | refine ev_convB rfl rfl tabOk rfl rfl rfl rfl ?_
    | refine ev_conv rfl rfl tabOk rfl rfl rfl (by simp only [lowK, hiK]; omega) ?_)
  refine ev_condD rfl (fun e => absurd rfl e) (fun _ => ?_)
  repeat (first
    | refine stepF_ok tabOk [] (m := 400) rfl ?_
    | refine stepF_ok tabOk [] (m := 16) rfl ?_
    | refine stepF_ok tabOk [] (m := 3) rfl ?_
    | refine stepF_ok tabOk [] (m := 0) rfl ?_
    | refine ev_load rfl rfl tabOk rfl rfl (by assumption) ?_
    | refine ev_loadB rfl rfl tabOk rfl rfl (by assumption) (by rfl) ?_
    | refine ev_loadAggB rfl rfl tabOk rfl rfl (by assumption) (by rfl) ?_
    | refine ev_arith rfl rfl rfl rfl rfl (by simp only [lowK, hiK]; omega) ?_
    | refine ev_rem rfl rfl rfl rfl (by omega) (by omega) ?_
    | refine ev_quo rfl rfl rfl rfl (by omega) (by omega) (by simp only [hiK]; omega) ?_
    | refine ev_index rfl rfl tabOk rfl rfl rfl (by omega) (by omega) ?_
    | refine ev_indexA rfl rfl tabOk rfl rfl rfl (by omega) (by omega) rfl ?_
    | refine ev_convB rfl rfl tabOk rfl rfl rfl rfl ?_
    | refine ev_conv rfl rfl tabOk rfl rfl rfl (by simp only [lowK, hiK]; omega) ?_)
  refine ev_call rfl rfl rfl (toValid (clean s) _ (by omega) (hT.fr0 hf4)) (fun r w5 hr => ?_)
  obtain ⟨⟨o, rfl, ho⟩, hf5⟩ := hr
  have hf5 := hf4.tr hf5
  have ho := ho.2 hcc
  subst ho
  repeat (first
    | refine stepF_ok tabOk [] (m := 400) rfl ?_
    | refine stepF_ok tabOk [] (m := 16) rfl ?_
    | refine stepF_ok tabOk [] (m := 3) rfl ?_
    | refine stepF_ok tabOk [] (m := 0) rfl ?_
    | refine ev_load rfl rfl tabOk rfl rfl (by assumption) ?_
    | refine ev_loadB rfl rfl tabOk rfl rfl (by assumption) (by rfl) ?_
    | refine ev_loadAggB rfl rfl tabOk rfl rfl (by assumption) (by rfl) ?_
    | refine ev_arith rfl rfl rfl rfl rfl (by simp only [lowK, hiK]; omega) ?_
    | refine ev_rem rfl rfl rfl rfl (by omega) (by omega) ?_
    | refine ev_quo rfl rfl rfl rfl (by omega) (by omega) (by simp only [hiK]; omega) ?_
    | refine ev_index rfl rfl tabOk rfl rfl rfl (by omega) (by omega) ?_
    | refine ev_indexA rfl rfl tabOk rfl rfl rfl (by omega) (by omega) rfl ?_
    | refine ev_convB rfl rfl tabOk rfl rfl rfl rfl ?_
    | refine ev_conv rfl rfl tabOk rfl rfl rfl (by simp only [lowK, hiK]; omega) ?_)
  refine ev_guardD rfl rfl (fun _ => ?_) (fun e => absurd rfl e)
  repeat (first
    | refine stepF_ok tabOk [] (m := 400) rfl ?_
    | refine stepF_ok tabOk [] (m := 16) rfl ?_
    | refine stepF_ok tabOk [] (m := 3) rfl ?_
    | refine stepF_ok tabOk [] (m := 0) rfl ?_
    | refine ev_load rfl rfl tabOk rfl rfl (by assumption) ?_
    | refine ev_loadB rfl rfl tabOk rfl rfl (by assumption) (by rfl) ?_
    | refine ev_loadAggB rfl rfl tabOk rfl rfl (by assumption) (by rfl) ?_
    | refine ev_arith rfl rfl rfl rfl rfl (by simp only [lowK, hiK]; omega) ?_
    | refine ev_rem rfl rfl rfl rfl (by omega) (by omega) ?_
    | refine ev_quo rfl rfl rfl rfl (by omega) (by omega) (by simp only [hiK]; omega) ?_
    | refine ev_index rfl rfl tabOk rfl rfl rfl (by omega) (by omega) ?_
    | refine ev_indexA rfl rfl tabOk rfl rfl rfl (by omega) (by omega) rfl ?_
    | refine ev_convB rfl rfl tabOk rfl rfl rfl rfl ?_
    | refine ev_conv rfl rfl tabOk rfl rfl rfl (by simp only [lowK, hiK]; omega) ?_)
  refine ev_call rfl rfl rfl (toValid s _ (by omega) (hT.fr0 hf5)) (fun r w6 hr => ?_)
  obtain ⟨⟨o, rfl, ho⟩, hf6⟩ := hr
  have hf6 := hf5.tr hf6
  repeat (first
    | refine stepF_ok tabOk [] (m := 400) rfl ?_
    | refine stepF_ok tabOk [] (m := 16) rfl ?_
    | refine stepF_ok tabOk [] (m := 3) rfl ?_
    | refine stepF_ok tabOk [] (m := 0) rfl ?_
    | refine ev_load rfl rfl tabOk rfl rfl (by assumption) ?_
    | refine ev_loadB rfl rfl tabOk rfl rfl (by assumption) (by rfl) ?_
    | refine ev_loadAggB rfl rfl tabOk rfl rfl (by assumption) (by rfl) ?_
    | refine ev_arith rfl rfl rfl rfl rfl (by simp only [lowK, hiK]; omega) ?_
    | refine ev_rem rfl rfl rfl rfl (by omega) (by omega) ?_
    | refine ev_quo rfl rfl rfl rfl (by omega) (by omega) (by simp only [hiK]; omega) ?_
    | refine ev_index rfl rfl tabOk rfl rfl rfl (by omega) (by omega) ?_
    | refine ev_indexA rfl rfl tabOk rfl rfl rfl (by omega) (by omega) rfl ?_
    | refine ev_convB rfl rfl tabOk rfl rfl rfl rfl ?_
    | refine ev_conv rfl rfl tabOk rfl rfl rfl (by simp only [lowK, hiK]; omega) ?_)
  rw [show decide (o = s) = decide (clean s = s) from decide_eq_decide.2 ho]
  generalize decide (clean s = s) = q
  cases q
  all_goals
    repeat (first
      | refine stepF_ok tabOk [] (m := 400) rfl ?_
      | refine stepF_ok tabOk [] (m := 16) rfl ?_
      | refine stepF_ok tabOk [] (m := 3) rfl ?_
      | refine stepF_ok tabOk [] (m := 0) rfl ?_
      | refine ev_load rfl rfl tabOk rfl rfl (by assumption) ?_
      | refine ev_loadB rfl rfl tabOk rfl rfl (by assumption) (by rfl) ?_
      | refine ev_loadAggB rfl rfl tabOk rfl rfl (by assumption) (by rfl) ?_
      | refine ev_arith rfl rfl rfl rfl rfl (by simp only [lowK, hiK]; omega) ?_
      | refine ev_rem rfl rfl rfl rfl (by omega) (by omega) ?_
      | refine ev_quo rfl rfl rfl rfl (by omega) (by omega) (by simp only [hiK]; omega) ?_
      | refine ev_index rfl rfl tabOk rfl rfl rfl (by omega) (by omega) ?_
      | refine ev_indexA rfl rfl tabOk rfl rfl rfl (by omega) (by omega) rfl ?_
      | refine ev_convB rfl rfl tabOk rfl rfl rfl rfl ?_
      | refine ev_conv rfl rfl tabOk rfl rfl rfl (by simp only [lowK, hiK]; omega) ?_)
    rw [show decide (clean s = clean s) = true from decide_eq_true rfl]
    repeat (first
      | refine stepF_ok tabOk [] (m := 400) rfl ?_
      | refine stepF_ok tabOk [] (m := 16) rfl ?_
      | refine stepF_ok tabOk [] (m := 3) rfl ?_
      | refine stepF_ok tabOk [] (m := 0) rfl ?_
      | refine ev_load rfl rfl tabOk rfl rfl (by assumption) ?_
      | refine ev_loadB rfl rfl tabOk rfl rfl (by assumption) (by rfl) ?_
      | refine ev_loadAggB rfl rfl tabOk rfl rfl (by assumption) (by rfl) ?_
      | refine ev_arith rfl rfl rfl rfl rfl (by simp only [lowK, hiK]; omega) ?_
      | refine ev_rem rfl rfl rfl rfl (by omega) (by omega) ?_
      | refine ev_quo rfl rfl rfl rfl (by omega) (by omega) (by simp only [hiK]; omega) ?_
      | refine ev_index rfl rfl tabOk rfl rfl rfl (by omega) (by omega) ?_
      | refine ev_indexA rfl rfl tabOk rfl rfl rfl (by omega) (by omega) rfl ?_
      | refine ev_convB rfl rfl tabOk rfl rfl rfl rfl ?_
      | refine ev_conv rfl rfl tabOk rfl rfl rfl (by simp only [lowK, hiK]; omega) ?_)
    exact ret1 (.inr rfl) rfl rfl ⟨rfl, hf6⟩
end Go.Wk.YtpnhfkmgnkdleaaDoor
