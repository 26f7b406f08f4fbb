/-
  Taken for this seat out of ShYe.
-/
import Derived.Test.YtdelgnflcfhhkaaGreatDoorPShYc
set_option linter.unusedVariables false
namespace Go.Wk.YtdelgnflcfhhkaaGreatDoor
open Go Go.Wk Go.Proofs
/-- three numbers -/
abbrev whR (r : Int × Int × Int) : Value := .tuple #[i64 r.1, i64 r.2.1, i64 r.2.2]
set_option maxHeartbeats 16000000 in
theorem refParts (m : LM) (w : World) (hm : m.At w) (hS : VS m.V) (hbl : m.bs.length ≤ 1000000) :
    CallsF Tryz.prog 83 [lmV m] w fun r w' => r = whR (allQ m.p) ∧ Fr no w w' := by
  have hlen : m.p.bs.length = m.bs.length := by simp [LM.p]
  refine callsF Tryz.func83 rfl rfl (by decide) rfl ?_
  refine sA [] rfl ?_
  refine ev_box rfl rfl rfl fun p w1 hp kp f1 => ?_
  have kp : Blk w1 p (lmC m) _ := kp
  refine sA [] rfl ?_
  refine ev_loadAgg rfl rfl tabOk rfl rfl rfl (shp_part m kp) ?_
  refine ev_alloc rfl rfl inf50 (fun c w2 hc kc f2 => ?_)
  skip
  refine ev_storeAgg tabOk rfl rfl rfl rfl rfl rfl kc rfl (fun w3 kc3 f3 => ?_)
  have h13 : Fr no w1 w3 := f2.trans f3 fun z hz e => by have : z = c := e; omega
  have kp3 := kp.fr0 h13
  have hF := f1.tr h13
  clear kp kc
  refine sA [] rfl ?_; refine ev_loadAggB rfl rfl tabOk rfl rfl ‹_› (by rfl) ?_
  refine ev_call rfl rfl rfl (refChk m.s w3) ?_
  rintro r w4 ⟨rfl, f4⟩
  have kp4 := kp3.fr0 f4
  have kc4 := kc3.fr0 f4
  have hF4 := hF.tr f4
  clear kp3 kc3
  unfold allQ
  by_cases hs : okS m.s
  case neg =>
    rw [chk_n hs, if_neg (show ¬ okS m.p.s from hs)]
    refine sA [] rfl ?_
    exact ret3 (.inr rfl) rfl rfl rfl rfl ⟨rfl, hF4⟩
  rw [chk_y hs, if_pos (show okS m.p.s from hs)]
  have hs' := hs
  obtain ⟨⟨g1, g2⟩, ⟨g3, g4⟩, ⟨g5, g6⟩, g7, g8, g9, ⟨g10, g11⟩, g12, g13⟩ := hs
  refine sA [] rfl ?_
  have hvo : Cs w4 (some ⟨p, 6, none⟩) [.slice m.tA m.V.texts.length m.tc, .slice m.mA m.V.merges.length m.mc] :=
    (Cs.of_blk kp4).part 6 fun j u hj => match j, hj with
      | 0, h => h | 1, h => h | n + 2, h => by simp at h
  refine ev_loadAgg rfl rfl tabOk rfl rfl rfl hvo ?_
  refine ev_call rfl rfl rfl (refCheck m.tA m.tc m.mA m.mc m.V w4 (hm.voc.fr0 hF4) hS) ?_
  rintro r w5 ⟨rfl, f5⟩
  have kp5 := kp4.fr0 f5
  have kc5 := kc4.fr0 f5
  have hF5 := hF4.tr f5
  clear hvo kp4 kc4
  have hcl := chk_le m.V
  refine sC [] rfl ?_; refine sC [] rfl ?_; refine sD [] rfl ?_; refine sD [] rfl ?_; refine sD [] rfl ?_
  by_cases c1 : (m.V.chk.2 : Int) = 0
  rotate_left
  · have hw : wordsQ m.p.s m.p.V = (2, (m.V.chk.1 : Int), (m.V.chk.2 : Int)) := if_neg c1
    rw [hw, if_neg (show ¬ ((2 : Int), (m.V.chk.1 : Int), (m.V.chk.2 : Int)).2.2 = 0 from c1), show decide (¬ (m.V.chk.2 : Int) = 0) = true from decide_eq_true c1]
    refine sA [] rfl ?_
    exact ret3 (.inr rfl) rfl rfl rfl rfl ⟨rfl, hF5⟩
  rw [show decide (¬ (m.V.chk.2 : Int) = 0) = false from decide_eq_false fun h => h c1]
  refine sA [] rfl ?_; refine ev_loadB rfl rfl tabOk rfl rfl ‹_› (by rfl) ?_; refine sA [] rfl ?_; refine ev_loadB rfl rfl tabOk rfl rfl ‹_› (by rfl) ?_; refine sD [] rfl ?_; refine sD [] rfl ?_
  by_cases c2 : (m.V.texts.length : Int) = m.s.voc
  rotate_left
  · have hw : wordsQ m.p.s m.p.V = (2, (m.V.texts.length : Int), 161) := by
      unfold wordsQ
      rw [if_pos (show (m.p.V.chk.2 : Int) = 0 from c1), if_neg (show ¬ (m.p.V.texts.length : Int) = m.p.s.voc from c2)]; rfl
    rw [hw, if_neg (by simp), show decide (¬ (m.V.texts.length : Int) = m.s.voc) = true from decide_eq_true c2]
    refine sA [] rfl ?_
    refine ev_draw mixed (by kernel_rfl) ?_
    refine qA rfl ?_; refine q_loadB rfl rfl tabOk rfl rfl ‹_› (by rfl) ?_; refine qA rfl ?_
    refine q_end fun w6 f6 => ?_
    refine sA [] rfl ?_
    exact ret3 (.inr rfl) rfl rfl rfl rfl ⟨rfl, hF5.tr f6⟩
  have hw : wordsQ m.p.s m.p.V = (0, 0, 0) := by
    unfold wordsQ
    rw [if_pos (show (m.p.V.chk.2 : Int) = 0 from c1), if_pos (show (m.p.V.texts.length : Int) = m.p.s.voc from c2)]
  rw [hw, if_pos (show ((0 : Int), (0 : Int), (0 : Int)).2.2 = 0 from rfl), show decide (¬ (m.V.texts.length : Int) = m.s.voc) = false from decide_eq_false fun h => h c2]
  have hh := half_bd hs'
  have hm1 := mul_bd (show 0 ≤ m.s.voc by omega) g2 (show 0 ≤ m.s.dim by omega) g6
  have hm2 := mul_bd (show 0 ≤ m.s.ctx by omega) g4 (show 0 ≤ halfS m.s by omega) hh.2.1
  rw [show halfS m.p.s = halfS m.s from rfl]
  obtain ⟨hf, ehf⟩ : ∃ x, x = halfS m.s := ⟨_, rfl⟩
  rw [← ehf] at hm2 ⊢
  unfold partsQ
  refine sA [] rfl ?_; refine ev_loadB rfl rfl tabOk rfl rfl ‹_› (by rfl) ?_; refine sA [] rfl ?_; refine ev_loadB rfl rfl tabOk rfl rfl ‹_› (by rfl) ?_; refine sA [] rfl ?_; refine ev_loadB rfl rfl tabOk rfl rfl ‹_› (by rfl) ?_; refine ev_arith rfl rfl rfl rfl rfl (by simp only [lowK, hiK]; omega) ?_; refine sD [] rfl ?_; refine sD [] rfl ?_
  by_cases d1 : (m.e.xs.length : Int) = m.s.voc * m.s.dim
  rotate_left
  · rw [show decide (¬ (m.e.xs.length : Int) = m.s.voc * m.s.dim) = true from decide_eq_true d1, if_pos (show ¬ (m.p.e.length : Int) = m.p.s.voc * m.p.s.dim from d1)]
    refine sA [] rfl ?_
    exact ret3 (.inr rfl) rfl rfl rfl rfl ⟨rfl, hF5⟩
  rw [show decide (¬ (m.e.xs.length : Int) = m.s.voc * m.s.dim) = false from decide_eq_false fun h => h d1, if_neg (show ¬ ¬ (m.p.e.length : Int) = m.p.s.voc * m.p.s.dim from fun h => h d1)]
  refine sA [] rfl ?_; refine ev_loadB rfl rfl tabOk rfl rfl ‹_› (by rfl) ?_
  refine ev_call rfl rfl rfl (refWithin m.es 0 24 w5) ?_
  rintro r w6 ⟨rfl, rfl⟩
  refine sD [] rfl ?_; refine sD [] rfl ?_
  by_cases d2 : 0 ≤ m.es ∧ m.es ≤ 24
  rotate_left
  · rw [show (!decide (0 ≤ m.es ∧ m.es ≤ 24)) = true by rw [decide_eq_false d2]; rfl, if_pos (show ¬ (0 ≤ m.p.es ∧ m.p.es ≤ 24) from d2)]
    refine sA [] rfl ?_
    exact ret3 (.inr rfl) rfl rfl rfl rfl ⟨rfl, hF5⟩
  rw [show (!decide (0 ≤ m.es ∧ m.es ≤ 24)) = false by rw [decide_eq_true d2]; rfl, if_neg (show ¬ ¬ (0 ≤ m.p.es ∧ m.p.es ≤ 24) from fun h => h d2)]
  refine sA [] rfl ?_; refine ev_loadB rfl rfl tabOk rfl rfl ‹_› (by rfl) ?_; refine sA [] rfl ?_; refine ev_loadB rfl rfl tabOk rfl rfl ‹_› (by rfl) ?_
  refine ev_buildSlice tabOk rfl rfl rfl inf44 rfl rfl rfl (fun v hv => by simp at hv; rcases hv with rfl | rfl <;> rfl) rfl (fun g7 w7 hg7 hb7 f7 => ?_)
  have kp7 := kp5.fr0 f7
  have kc7 := kc5.fr0 f7
  have hF7 := hF5.tr f7
  clear kp5 kc5
  refine sA [] rfl ?_
  refine ev_loop (α := Nat) (fun y => [(1, .pointer (some ⟨p, 0, none⟩)), (5, .pointer (some ⟨c, 0, none⟩)), (59, .slice (some ⟨g7, 0, none⟩) 2 2), (60, i64 2), (61, i64 y)])
    (fun y w' => y ≤ 2 ∧ Fr no w w' ∧ Blk w' p (lmC m) 56 ∧ Blk w' c (shpC m.s) 50 ∧ Blk w' g7 [m.cos.v, m.sin.v] 44 ∧ (0 < y → (m.cos.xs.length : Int) = m.s.ctx * hf) ∧ (1 < y → (m.sin.xs.length : Int) = m.s.ctx * hf)) (fun y => 2 - y) 0 ⟨rfl, rfl, rfl, rfl, rfl, trivial⟩ ⟨Nat.zero_le _, hF7, kp7, kc7, hb7, (fun h => absurd h (Nat.lt_irrefl _)), (fun h => absurd h (by omega))⟩ ?_
  clear hF7 kp7 kc7 hb7
  rintro y w8 ⟨hy, hF8, kp8, kc8, hb8, z1, z2⟩
  refine sC [] rfl ?_; refine sD [] rfl ?_
  refine ev_condD rfl (fun c5 => ?_) (fun c5 => ?_)
  · have hy2 : y < 2 := by omega
    obtain ⟨r, hr⟩ : ∃ r : Rw, [m.cos, m.sin][y]? = some r := ⟨[m.cos, m.sin][y], List.getElem?_eq_getElem (by simpa using hy2)⟩
    have hcell : ∀ w', Fr no w8 w' → w'.cell? ⟨g7, 0 + y, none⟩ = some r.v := fun w' h => by
      refine (Cs.of_blk (hb8.fr0 h)).at ?_
      have : ([m.cos, m.sin].map Rw.v)[y]? = some r.v := by rw [List.getElem?_map, hr]; rfl
      exact this
    have hc0 := hcell w8 (Fr.refl _ _)
    refine sA [] rfl ?_
    refine ev_indexAddr rfl rfl tabOk rfl rfl rfl (by omega) (by omega) ?_
    rw [show 0 + (y : Int).toNat * 1 = 0 + y by omega]
    refine ev_load rfl rfl tabOk rfl rfl hc0 ?_
    refine sA [] rfl ?_
    refine ev_draw mixed (by kernel_rfl) ?_
    refine qA rfl ?_; refine q_loadB rfl rfl tabOk rfl rfl ‹_› (by rfl) ?_; refine q_loadAggB rfl rfl tabOk rfl rfl ‹_› (by rfl) ?_
    refine q_call rfl rfl rfl (fun w' hw' => (refHalf m.s w').mono fun u w'' z => ⟨z.1, hw'.tr z.2⟩) ?_
    rw [← ehf]
    refine q_arith rfl rfl rfl rfl rfl (by simp only [lowK, hiK]; omega) ?_; refine qA rfl ?_
    refine q_end fun w9 f9 => ?_
    have kp9 := kp8.fr0 f9
    have kc9 := kc8.fr0 f9
    have hb9 := hb8.fr0 f9
    have hF9 := hF8.tr f9
    clear kp8 kc8 hb8 hc0 hcell
    refine ev_condD rfl (fun d3 => ?_) (fun d3 => ?_)
    · refine sA [] rfl ?_
      refine ret3 (.inr rfl) rfl rfl rfl rfl ⟨?_, hF9⟩
      rcases Nat.lt_or_ge 0 y with h0 | h0
      · obtain rfl : y = 1 := by omega
        obtain rfl : m.sin = r := Option.some.inj hr
        rw [if_neg (show ¬ ¬ (m.p.cos.length : Int) = m.p.s.ctx * hf from fun h => h (z1 h0)), if_pos (show ¬ (m.p.sin.length : Int) = m.p.s.ctx * hf from d3)]
        rfl
      · obtain rfl : y = 0 := by omega
        obtain rfl : m.cos = r := Option.some.inj hr
        rw [if_pos (show ¬ (m.p.cos.length : Int) = m.p.s.ctx * hf from d3)]
        rfl
    · have d3 := Decidable.not_not.1 d3
      refine sA [] rfl ?_; refine ev_arith rfl rfl rfl rfl rfl (by simp only [lowK, hiK]; omega) ?_; refine sA [] rfl ?_
      refine ev_next (y + 1) (by omega) ⟨by omega, hF9, kp9, kc9, hb9, fun h => ?_, fun h => ?_⟩ ⟨rfl, rfl, rfl, rfl, by rw [show ((y + 1 : Nat) : Int) = (y : Int) + 1 by omega]; rfl, trivial⟩
      · rcases Nat.lt_or_ge 0 y with h0 | h0
        · exact z1 h0
        · obtain rfl : y = 0 := by omega
          obtain rfl : m.cos = r := Option.some.inj hr
          exact d3
      · obtain rfl : y = 1 := by omega
        obtain rfl : m.sin = r := Option.some.inj hr
        exact d3
  obtain rfl : y = 2 := by omega
  rw [if_neg (show ¬ ¬ (m.p.cos.length : Int) = m.p.s.ctx * hf from fun h => h (z1 (by omega))), if_neg (show ¬ ¬ (m.p.sin.length : Int) = m.p.s.ctx * hf from fun h => h (z2 (by omega)))]
  clear hb8 z1 z2
  obtain ⟨N, hN⟩ : ∃ N : Nat, N = blkN m.p.s m.p.bs := ⟨_, rfl⟩
  have hNl : m.bs.length ≤ N ∧ m.s.lay ≤ N ∧ (N = m.bs.length ∨ (N : Int) = m.s.lay) := by
    have e : N = max m.s.lay.toNat m.p.bs.length := hN
    rw [hlen] at e; omega
  have hfind : ∀ y, y < N → (∀ i < y, blkAt m.p.s m.p.bs i = 0) → ¬ blkAt m.p.s m.p.bs y = 0 → (List.range (blkN m.p.s m.p.bs)).find? (fun i => !decide (blkAt m.p.s m.p.bs i = 0)) = some y := fun y hyN hz h => by
    rw [← hN]
    refine List.find?_range_eq_some.2 ⟨by simpa using h, List.mem_range.2 hyN, fun j hj => by simpa using hz j hj⟩
  refine sA [] rfl ?_; refine ev_loadB rfl rfl tabOk rfl rfl ‹_› (by rfl) ?_; refine sA [] rfl ?_
  refine ev_loop (α := Nat) (fun y => [(1, .pointer (some ⟨p, 0, none⟩)), (5, .pointer (some ⟨c, 0, none⟩)), (77, .slice m.bA m.bs.length m.bc), (78, i64 m.bs.length), (79, i64 y)])
    (fun y w' => y ≤ m.bs.length ∧ Fr no w w' ∧ Blk w' p (lmC m) 56 ∧ Blk w' c (shpC m.s) 50 ∧ ∀ i < y, blkAt m.p.s m.p.bs i = 0) (fun y => m.bs.length - y) 0 ⟨rfl, rfl, rfl, rfl, rfl, trivial⟩ ⟨Nat.zero_le _, hF8, kp8, kc8, fun i h => absurd h (Nat.not_lt_zero _)⟩ ?_
  clear hF8 kp8 kc8
  rintro y w9 ⟨hy, hF9, kp9, kc9, hz⟩
  refine sC [] rfl ?_; refine sD [] rfl ?_
  refine ev_condD rfl (fun c6 => ?_) (fun c6 => ?_)
  · have hyb : y < m.bs.length := by omega
    obtain ⟨g, o, hA, hblk⟩ := blk_at (hm.blk.fr0 hF9) hyb
    refine sA [] rfl ?_
    refine ev_indexAddr rfl rfl tabOk (congrArg (fun z => some (Value.slice z m.bs.length m.bc)) hA) rfl rfl (by omega) (by omega) ?_
    refine ev_loadAgg rfl rfl tabOk rfl rfl rfl hblk ?_
    refine ev_alloc rfl rfl inf86 (fun q wa hq ka fa => ?_)
    refine sA [] rfl ?_
    refine ev_storeAgg tabOk rfl rfl rfl rfl rfl rfl ka rfl (fun wb kb fb => ?_)
    have h9b : Fr no w9 wb := fa.trans fb fun z hz e => by have : z = q := e; omega
    have kpb := kp9.fr0 h9b
    have kcb := kc9.fr0 h9b
    have hFb := hF9.tr h9b
    clear hblk ka kp9 kc9
    refine sA [] rfl ?_; refine ev_loadB rfl rfl tabOk rfl rfl ‹_› (by rfl) ?_; refine sD [] rfl ?_; refine sD [] rfl ?_
    refine ev_condD rfl (fun d4 => ?_) (fun d4 => ?_)
    · have hb : blkAt m.p.s m.p.bs y = 161 := by
        unfold blkAt; split
        · rw [if_neg (show ¬ (y : Int) < m.p.s.lay from fun h => by have h : (y : Int) < m.s.lay := h; omega)]
        · rfl
      rw [hfind y (by omega) hz (by omega), Option.elim_some, hb]
      refine sA [] rfl ?_
      exact ret3 (.inr rfl) rfl rfl rfl rfl ⟨rfl, hFb⟩
    · have hb : blkAt m.p.s m.p.bs y = blockQ m.s (pBk m.bs[y]) := by
        unfold blkAt
        rw [show m.p.bs[y]? = some (pBk m.bs[y]) by simp [LM.p, List.getElem?_eq_getElem hyb]]
        exact if_pos (show (y : Int) < m.s.lay by omega)
      refine sA [] rfl ?_; refine ev_loadAggB rfl rfl tabOk rfl rfl ‹_› (by rfl) ?_; refine ev_loadAggB rfl rfl tabOk rfl rfl ‹_› (by rfl) ?_
      refine ev_call rfl rfl rfl (refBlock m.s m.bs[y] wb (by omega) (by omega)) ?_
      rintro r wc ⟨rfl, fc⟩
      have kpc := kpb.fr0 fc
      have kcc := kcb.fr0 fc
      have hFc := hFb.tr fc
      clear kpb kcb kb
      rw [← hb]
      refine sC [] rfl ?_; refine sD [] rfl ?_; refine sD [] rfl ?_; refine sD [] rfl ?_
      refine ev_condD rfl (fun d5 => ?_) (fun d5 => ?_)
      · rw [hfind y (by omega) hz d5, Option.elim_some]
        refine sA [] rfl ?_
        exact ret3 (.inr rfl) rfl rfl rfl rfl ⟨rfl, hFc⟩
      · refine sA [] rfl ?_; refine ev_arith rfl rfl rfl rfl rfl (by simp only [lowK, hiK]; omega) ?_; refine sA [] rfl ?_
        refine ev_next (y + 1) (by omega) ⟨by omega, hFc, kpc, kcc, fun i hi => by
          by_cases h : i = y
          · rw [h]; omega
          · exact hz i (by omega)⟩ ⟨rfl, rfl, rfl, rfl, by rw [show ((y + 1 : Nat) : Int) = (y : Int) + 1 by omega]; rfl, trivial⟩
  obtain rfl : y = m.bs.length := by omega
  refine sA [] rfl ?_; refine ev_loadB rfl rfl tabOk rfl rfl ‹_› (by rfl) ?_; refine sA [] rfl ?_; refine ev_loadB rfl rfl tabOk rfl rfl ‹_› (by rfl) ?_; refine sD [] rfl ?_; refine sD [] rfl ?_
  refine ev_condD rfl (fun d6 => ?_) (fun d6 => ?_)
  · have hb : blkAt m.p.s m.p.bs m.bs.length = 161 := by
      unfold blkAt
      rw [show m.p.bs[m.bs.length]? = none by simp [LM.p]]
    rw [hfind m.bs.length (by omega) hz (by omega), Option.elim_some, hb]
    refine sA [] rfl ?_
    refine ev_draw mixed (by kernel_rfl) ?_
    refine qA rfl ?_; refine q_loadB rfl rfl tabOk rfl rfl ‹_› (by rfl) ?_; refine qA rfl ?_
    refine q_end fun wd fd => ?_
    refine sA [] rfl ?_
    exact ret3 (.inr rfl) rfl rfl rfl rfl ⟨rfl, hF9.tr fd⟩
  have hnone : (List.range (blkN m.p.s m.p.bs)).find? (fun i => !decide (blkAt m.p.s m.p.bs i = 0)) = none := by
    rw [List.find?_eq_none]
    intro i hi
    rw [← hN] at hi
    rw [decide_eq_true (hz i (by have := List.mem_range.1 hi; omega))]
    simp
  rw [hnone, Option.elim_none]
  unfold tailQ
  refine sA [] rfl ?_; refine ev_loadB rfl rfl tabOk rfl rfl ‹_› (by rfl) ?_; refine sD [] rfl ?_; refine sD [] rfl ?_; refine sD [] rfl ?_
  refine ev_condD rfl (fun c6 => ?_) (fun c6 => ?_)
  · rw [if_pos (show ¬ (m.p.bend.length : Int) = 256 from c6)]
    refine sA [] rfl ?_
    exact ret3 (.inr rfl) rfl rfl rfl rfl ⟨rfl, hF9⟩
  rw [if_neg (show ¬ ¬ (m.p.bend.length : Int) = 256 from c6)]
  refine sA [] rfl ?_; refine ev_loadB rfl rfl tabOk rfl rfl ‹_› (by rfl) ?_; refine sA [] rfl ?_; refine ev_loadB rfl rfl tabOk rfl rfl ‹_› (by rfl) ?_; refine sD [] rfl ?_; refine sD [] rfl ?_
  refine ev_condD rfl (fun c7 => ?_) (fun c7 => ?_)
  · rw [if_pos (show ¬ (m.p.gain.length : Int) = m.p.s.dim from c7)]
    refine sA [] rfl ?_
    exact ret3 (.inr rfl) rfl rfl rfl rfl ⟨rfl, hF9⟩
  rw [if_neg (show ¬ ¬ (m.p.gain.length : Int) = m.p.s.dim from c7)]
  refine sA [] rfl ?_; refine ev_loadB rfl rfl tabOk rfl rfl ‹_› (by rfl) ?_; refine sA [] rfl ?_; refine ev_loadB rfl rfl tabOk rfl rfl ‹_› (by rfl) ?_; refine sA [] rfl ?_; refine ev_loadB rfl rfl tabOk rfl rfl ‹_› (by rfl) ?_; refine ev_arith rfl rfl rfl rfl rfl (by simp only [lowK, hiK]; omega) ?_; refine sD [] rfl ?_; refine sD [] rfl ?_
  refine ev_condD rfl (fun c8 => ?_) (fun c8 => ?_)
  · rw [if_pos (show ¬ (m.p.un.length : Int) = m.p.s.voc * m.p.s.dim from c8)]
    refine sA [] rfl ?_
    exact ret3 (.inr rfl) rfl rfl rfl rfl ⟨rfl, hF9⟩
  rw [if_neg (show ¬ ¬ (m.p.un.length : Int) = m.p.s.voc * m.p.s.dim from c8)]
  refine sA [] rfl ?_; refine ev_loadB rfl rfl tabOk rfl rfl ‹_› (by rfl) ?_
  refine ev_call rfl rfl rfl (refWithin m.ls 0 31 w9) ?_
  rintro r we ⟨rfl, rfl⟩
  have hsh : shiftQ [m.p.ls] = decide (0 ≤ m.ls ∧ m.ls ≤ 31) := by simp [shiftQ, LM.p]
  rw [hsh]
  refine sD [] rfl ?_; refine sD [] rfl ?_
  by_cases c9 : 0 ≤ m.ls ∧ m.ls ≤ 31
  · rw [decide_eq_true c9, if_neg (by simp)]
    refine sA [] rfl ?_
    exact ret3 (.inr rfl) rfl rfl rfl rfl ⟨rfl, hF9⟩
  · rw [decide_eq_false c9, if_pos rfl]
    refine sA [] rfl ?_
    exact ret3 (.inr rfl) rfl rfl rfl rfl ⟨rfl, hF9⟩
end Go.Wk.YtdelgnflcfhhkaaGreatDoor
namespace Go.Wk.YtdelgnflcfhhkaaGreatDoor
open Go Go.Wk Go.Proofs
theorem topQ_abs (xs : List Int8) (y : Nat) (h : y < xs.length) : topQ xs (y + 1) = if topQ xs y < (if xs[y].toInt < 0 then -xs[y].toInt else xs[y].toInt) then (if xs[y].toInt < 0 then -xs[y].toInt else xs[y].toInt) else topQ xs y := by
  have hb := topQ_bd xs y
  have e : topQ xs (y + 1) = (let a := xs[y].toInt; let b := if topQ xs y < a then a else topQ xs y; if b < -a then -a else b) := by
    simp only [topQ, List.getD_eq_getElem?_getD, List.getElem?_eq_getElem h, Option.getD_some]
  rw [e]
  simp only
  (repeat' split) <;> omega
theorem pow_step (t : Int) (y : Nat) : t * 2 ^ (y + 1) = t * 2 ^ y * 2 := by rw [Int.pow_succ, Int.mul_assoc]
set_option maxHeartbeats 8000000 in
theorem refReaches0 (m : LM) (w : World) (hm : m.At w) (hs : okS m.s) (hp : PartsOk m.p) (hcap : m.Cap) :
    CallsF Tryz.prog 84 [lmV m] w fun r w' => (∃ A c, r = .slice A (1 + 2 * m.bs.length) c ∧ Cs w' A ((reachQ m.p).map i64)) ∧ Fr no w w' := by
  have hfb := firstQ_bd m.p hp.es
  have hlb := fun y h => lN_bd m.p hp.es hs y h
  have hes : 0 ≤ m.es ∧ m.es ≤ 24 := hp.es
  have hlen : m.p.bs.length = m.bs.length := by simp [LM.p]
  have hlay : (m.p.bs.length : Int) = m.s.lay := hp.lay
  obtain ⟨⟨g1, g2⟩, _, ⟨g5, g6⟩, _, _, _, ⟨g10, g11⟩, g12, g13⟩ := hs
  have hel : m.e.xs.length ≤ 1000000 := by
    have h1 : (m.e.xs.length : Int) = m.s.voc * m.s.dim := hp.e
    have := mul_bd (show 0 ≤ m.s.voc by omega) g2 (show 0 ≤ m.s.dim by omega) g6
    omega
  refine callsF Tryz.func84 rfl rfl (by decide) rfl ?_
  refine sA [] rfl ?_
  refine ev_box rfl rfl rfl fun p w1 hp1 kp f1 => ?_
  have kp : Blk w1 p (lmC m) 56 := kp
  refine sA [] rfl ?_; refine ev_loadB rfl rfl tabOk rfl rfl ‹_› (by rfl) ?_; refine sA [] rfl ?_
  have heA : Cs w1 m.e.A (m.e.xs.map i8v) := (hm.rows m.e (by simp)).fr0 f1
  refine ev_loop (α := Nat) (fun y => [(1, .pointer (some ⟨p, 0, none⟩)), (3, i64 (topQ m.e.xs y)), (13, m.e.v), (14, i64 m.e.xs.length), (15, i64 y)]) (fun y w' => y ≤ m.e.xs.length ∧ w' = w1) (fun y => m.e.xs.length - y) 0 ⟨rfl, rfl, rfl, rfl, rfl, trivial⟩ ⟨Nat.zero_le _, rfl⟩ ?_
  rintro y w' ⟨hy, rfl⟩
  have htb := topQ_bd m.e.xs y
  refine sC [] rfl ?_; refine sD [] rfl ?_
  refine ev_condD rfl (fun c => ?_) (fun c => ?_)
  · have hlt : y < m.e.xs.length := by omega
    obtain ⟨g, o, hA, hcell⟩ := heA y (i8v m.e.xs[y]) (by simp [List.getElem?_eq_getElem hlt])
    have hyb := i8_bd' m.e.xs[y]
    have hyt := topQ_abs m.e.xs y hlt
    have hcell : w'.cell? ⟨g, o + y, none⟩ = some (.int .i8 m.e.xs[y].toInt) := hcell
    obtain ⟨a, ha⟩ : ∃ a, a = m.e.xs[y].toInt := ⟨_, rfl⟩
    rw [← ha] at hyb hyt hcell
    refine sA [] rfl ?_
    refine ev_indexAddr rfl rfl tabOk (congrArg (fun z => some (Value.slice z m.e.xs.length m.e.c)) hA) rfl rfl (by omega) (by omega) ?_
    rw [show o + (y : Int).toNat * 1 = o + y by omega]
    refine ev_load rfl rfl tabOk rfl rfl hcell ?_
    refine sA [] rfl ?_; refine ev_conv rfl rfl tabOk rfl rfl rfl (by simp only [lowK, hiK]; omega) ?_; refine sC [] rfl ?_; refine sC [] rfl ?_
    refine ev_condD rfl (fun c2 => ?_) (fun c2 => ?_)
    · rw [if_pos c2] at hyt
      refine sC [] rfl ?_; refine sC [] rfl ?_; refine sD [] rfl ?_; refine sD [] rfl ?_; refine sD [] rfl ?_
      rw [show IntKind.i64.wrap (0 - a) = -a from by rw [show (0 : Int) - a = -a by omega]; exact wrapK (k := .i64) (by simp only [lowK, hiK]; omega)]
      refine ev_condD rfl (fun c3 => ?_) (fun c3 => ?_)
      · rw [if_pos c3] at hyt
        refine sA [] rfl ?_; refine ev_arith rfl rfl rfl rfl rfl (by simp only [lowK, hiK]; omega) ?_; refine sA [] rfl ?_
        refine ev_next (y + 1) (by omega) ⟨by omega, rfl⟩ ⟨rfl, by rw [hyt]; rfl, rfl, rfl, by rw [show ((y + 1 : Nat) : Int) = (y : Int) + 1 by omega]; rfl, trivial⟩
      · rw [if_neg c3] at hyt
        refine sA [] rfl ?_; refine ev_arith rfl rfl rfl rfl rfl (by simp only [lowK, hiK]; omega) ?_; refine sA [] rfl ?_
        refine ev_next (y + 1) (by omega) ⟨by omega, rfl⟩ ⟨rfl, by rw [hyt]; rfl, rfl, rfl, by rw [show ((y + 1 : Nat) : Int) = (y : Int) + 1 by omega]; rfl, trivial⟩
    · rw [if_neg c2] at hyt
      refine sC [] rfl ?_; refine sD [] rfl ?_; refine sD [] rfl ?_; refine sD [] rfl ?_
      refine ev_condD rfl (fun c3 => ?_) (fun c3 => ?_)
      · rw [if_pos c3] at hyt
        refine sA [] rfl ?_; refine ev_arith rfl rfl rfl rfl rfl (by simp only [lowK, hiK]; omega) ?_; refine sA [] rfl ?_
        refine ev_next (y + 1) (by omega) ⟨by omega, rfl⟩ ⟨rfl, by rw [hyt]; rfl, rfl, rfl, by rw [show ((y + 1 : Nat) : Int) = (y : Int) + 1 by omega]; rfl, trivial⟩
      · rw [if_neg c3] at hyt
        refine sA [] rfl ?_; refine ev_arith rfl rfl rfl rfl rfl (by simp only [lowK, hiK]; omega) ?_; refine sA [] rfl ?_
        refine ev_next (y + 1) (by omega) ⟨by omega, rfl⟩ ⟨rfl, by rw [hyt]; rfl, rfl, rfl, by rw [show ((y + 1 : Nat) : Int) = (y : Int) + 1 by omega]; rfl, trivial⟩
  obtain rfl : y = m.e.xs.length := by omega
  obtain ⟨t, ht⟩ : ∃ t, t = topQ m.e.xs m.e.xs.length := ⟨_, rfl⟩
  have hft : firstQ m.p = t * 2 ^ m.es.toNat := by rw [ht]; rfl
  rw [← ht] at htb ⊢
  refine sA [] rfl ?_
  refine ev_loop (α := Nat) (fun y => [(1, .pointer (some ⟨p, 0, none⟩)), (3, i64 (t * 2 ^ y)), (7, i64 y)]) (fun y w2 => (y : Int) ≤ m.es ∧ w2 = w') (fun y => m.es.toNat - y) 0 ⟨rfl, by rw [Int.pow_zero, Int.mul_one]; rfl, rfl, trivial⟩ ⟨by omega, rfl⟩ ?_
  rintro y w2 ⟨hy, rfl⟩
  have hpw : 0 ≤ t * 2 ^ y ∧ t * 2 ^ y ≤ 2147483648 := by
    have h2 : (2 : Int) ^ y ≤ 2 ^ 24 := by exact_mod_cast Nat.pow_le_pow_right (n := 2) (by omega) (show y ≤ 24 by omega)
    have h3 : (0 : Int) < 2 ^ y := Int.pow_pos (by omega)
    have h4 := Int.mul_le_mul htb.2 h2 (by omega) (by omega)
    have h5 := Int.mul_nonneg htb.1 (show (0 : Int) ≤ 2 ^ y by omega)
    omega
  refine sA [] rfl ?_; refine ev_loadB rfl rfl tabOk rfl rfl ‹_› (by rfl) ?_; refine sD [] rfl ?_; refine sD [] rfl ?_
  refine ev_condD rfl (fun c => ?_) (fun c => ?_)
  · refine sA [] rfl ?_; refine ev_arith rfl rfl rfl rfl rfl (by simp only [lowK, hiK]; omega) ?_; refine sA [] rfl ?_; refine ev_arith rfl rfl rfl rfl rfl (by simp only [lowK, hiK]; omega) ?_; refine sA [] rfl ?_
    refine ev_next (y + 1) (by omega) ⟨by omega, rfl⟩ ⟨rfl, by rw [pow_step]; rfl, by rw [show ((y + 1 : Nat) : Int) = (y : Int) + 1 by omega]; rfl, trivial⟩
  obtain rfl : y = m.es.toNat := by omega
  rw [← hft]
  refine sA [] rfl ?_
  refine ev_buildSlice tabOk rfl rfl rfl inf2 rfl rfl rfl (fun v hv => by simp at hv; rcases hv with rfl; rfl) rfl (fun g1 w3 hg1 hb1 f2 => ?_)
  have kp2 := kp.fr0 f2
  have hf2 := f1.tr f2
  have hO : Own w3 2 1 (.slice (some ⟨g1, 0, none⟩) 1 1) (1 + 2 * 0) ((rN m.p 0).map i64) := own_of_blk hb1 rfl (by omega)
  have hge : w.heap.size ≤ g1 := Nat.le_trans f1.size hg1
  have hpg : p < g1 := Nat.lt_of_lt_of_le kp.lt hg1
  refine sA [] rfl ?_; refine ev_loadB rfl rfl tabOk rfl rfl ‹_› (by rfl) ?_; refine sA [] rfl ?_
  refine ev_loop (α := Nat × Value) (fun y => [(1, .pointer (some ⟨p, 0, none⟩)), (8, y.2), (41, .slice m.bA m.bs.length m.bc), (42, i64 m.bs.length), (43, i64 y.1)])
    (fun y w' => y.1 ≤ m.bs.length ∧ Fr no w w' ∧ Blk w' p (lmC m) 56 ∧ Own w' 2 1 y.2 (1 + 2 * y.1) ((rN m.p y.1).map i64) ∧ ∀ g, y.2.ownBlock = some g → w.heap.size ≤ g ∧ g ≠ p) (fun y => m.bs.length - y.1) (0, .slice (some ⟨g1, 0, none⟩) 1 1)
    ⟨rfl, rfl, rfl, rfl, rfl, trivial⟩ ⟨Nat.zero_le _, hf2, kp2, hO, fun g hg => by cases hg; exact ⟨hge, Nat.ne_of_gt hpg⟩⟩ ?_
  clear hf2 kp2 hO hb1 kp f2
  rintro ⟨y, v⟩ w4 ⟨hy, hF, kp, hO, hv⟩
  have hy : y ≤ m.bs.length := hy
  have hO : Own w4 2 1 v (1 + 2 * y) ((rN m.p y).map i64) := hO
  have hv : ∀ g, v.ownBlock = some g → w.heap.size ≤ g ∧ g ≠ p := hv
  have hl1 := hlb y (by omega)
  have hl2 := rN_last m.p (y := y) (by omega)
  have hl3 := rN_len m.p y (by omega)
  refine sC [] rfl ?_; refine sD [] rfl ?_
  refine ev_condD rfl (fun c => ?_) (fun c => ?_)
  · have hyb : y < m.bs.length := by have c : (y : Int) < m.bs.length := c; omega
    have hyp : y < m.p.bs.length := by omega
    have hl4 := hlb (y + 1) (by omega)
    obtain ⟨bo1, bo2, bo3, bo4⟩ := block_o (hp.bs (m.p.bs[y]) (List.getElem_mem hyp))
    have hR := rN_succ m.p hyp
    have hL := lN_succ m.p hyp
    have hq1 := moreQ_bd64 (xs := m.p.bs[y].o) (n := m.p.s.dim.toNat) (s := m.p.bs[y].os.toNat) (by show m.s.dim.toNat ≤ 256; omega) m.p.s.dim.toNat
    have hq2 := moreQ_bd64 (xs := m.p.bs[y].dn) (n := m.p.s.hid.toNat) (s := m.p.bs[y].dns.toNat) (by show m.s.hid.toNat ≤ 256; omega) m.p.s.dim.toNat
    have hbe : m.p.bs[y] = pBk m.bs[y] := by simp [LM.p]
    rw [hbe] at bo1 bo2 bo3 bo4 hR hL hq1 hq2
    have bo1 : (m.bs[y].o.xs.length : Int) = m.s.dim * m.s.dim := bo1
    have bo2 : (m.bs[y].dn.xs.length : Int) = m.s.dim * m.s.hid := bo2
    have bo3 : 0 ≤ m.bs[y].os ∧ m.bs[y].os ≤ 31 := bo3
    have bo4 : 0 ≤ m.bs[y].dns ∧ m.bs[y].dns ≤ 31 := bo4
    have hcp := hcap _ (List.getElem_mem hyb)
    obtain ⟨g, o, hA, hblk⟩ := blk_at (hm.blk.fr0 hF) hyb
    have hm_b : m.bs[y].At w := hm.bs _ (List.getElem_mem hyb)
    have hbat : m.bs[y].At w4 := Bk.At.fr0 hm_b hF
    obtain ⟨b, hb⟩ : ∃ b, b = m.bs[y] := ⟨_, rfl⟩
    rw [← hb] at bo1 bo2 bo3 bo4 hcp hblk hbat hR hL hq1 hq2 hm_b
    have hm_b : b.At w := hm_b
    have hbat : b.At w4 := hbat
    refine sA [] rfl ?_
    refine ev_indexAddr rfl rfl tabOk (congrArg (fun z => some (Value.slice z m.bs.length m.bc)) hA) rfl rfl (by show (0 : Int) ≤ y; omega) (by show (y : Int) < _; omega) ?_
    refine ev_loadAgg rfl rfl tabOk rfl rfl rfl hblk ?_
    refine ev_alloc rfl rfl inf86 (fun q w5 hq hC f5 => ?_)
    skip
    refine ev_storeAgg tabOk rfl rfl rfl rfl rfl rfl hC rfl (fun w6 kq f6 => ?_)
    have h46 : Fr no w4 w6 := f5.trans f6 fun z hz e => by have : z = q := e; omega
    have kp6 := kp.fr0 h46
    have hO6 := hO.fr0 h46
    have hF6 := hF.tr h46
    have hb6 := hbat.fr0 h46
    have hvq : ∀ g, v.ownBlock = some g → g ≠ q := fun g hg e => by have := hO.lt hg; omega
    clear hC hblk hbat hO kp hF
    obtain ⟨vA, vc, hve, hvcs, _⟩ := hO6.slice
    subst hve
    obtain ⟨vg, vo, rfl, hcl⟩ := hvcs (2 * y) (i64 (lN m.p y)) (by rw [List.getElem?_map, hl2]; rfl)
    have hcl : w6.cell? ⟨vg, vo + (((1 + 2 * y : Nat) : Int) - 1).toNat * 1, none⟩ = some (i64 (lN m.p y)) := by rw [show vo + (((1 + 2 * y : Nat) : Int) - 1).toNat * 1 = vo + 2 * y by omega]; exact hcl
    refine sA [] rfl ?_
    refine ev_draw mixed (by kernel_rfl) ?_
    refine qA rfl ?_; refine q_arith rfl rfl rfl rfl rfl (by simp only [lowK, hiK]; omega) ?_
    refine q_indexAddr rfl rfl tabOk rfl rfl rfl (by omega) (by omega) ?_
    refine q_load rfl rfl tabOk rfl rfl (fun _ hf => cell_fr (by assumption) hf id) ?_; refine qA rfl ?_; refine q_loadB rfl rfl tabOk rfl rfl ‹_› (by rfl) ?_; refine qA rfl ?_; refine q_loadB rfl rfl tabOk rfl rfl ‹_› (by rfl) ?_; refine qA rfl ?_; refine q_loadB rfl rfl tabOk rfl rfl ‹_› (by rfl) ?_
    refine q_call rfl rfl rfl (fun w' hw' => (refMostI b.o m.s.dim b.os m.s.dim w' (Cs.fr0 (hb6 _ (by simp)) hw') (by omega) (by omega) bo1 hcp.1 bo3).mono fun u w'' z => ⟨z.1, hw'.tr z.2⟩) ?_
    obtain ⟨a1, ha1⟩ : ∃ a, a = moreQ (pBk b).o m.p.s.dim.toNat (pBk b).os.toNat m.p.s.dim.toNat := ⟨_, rfl⟩
    rw [show moreQ b.o.xs m.s.dim.toNat b.os.toNat m.s.dim.toNat = a1 from ha1.symm]
    rw [← ha1] at hR hL hq1
    refine q_arith rfl rfl rfl rfl rfl (by simp only [lowK, hiK]; omega) ?_; refine qA rfl ?_
    refine q_end fun w7 f7 => ?_
    have kp7 := kp6.fr0 f7
    have kq7 := kq.fr0 f7
    have hO7 := hO6.fr0 f7
    have hF7 := hF6.tr f7
    have hb7 := hb6.fr0 f7
    clear kp6 kq hO6 hF6 hb6 hcl hvcs
    refine sA [] rfl ?_; refine ev_loadB rfl rfl tabOk rfl rfl ‹_› (by rfl) ?_; refine sA [] rfl ?_; refine ev_loadB rfl rfl tabOk rfl rfl ‹_› (by rfl) ?_; refine sA [] rfl ?_; refine ev_loadB rfl rfl tabOk rfl rfl ‹_› (by rfl) ?_
    refine ev_call rfl rfl rfl (refMostI b.dn m.s.hid b.dns m.s.dim w7 (hb7 _ (by simp)) (by omega) (by omega) bo2 hcp.2 bo4) ?_
    rintro r w8 ⟨rfl, f8⟩
    obtain ⟨a2, ha2⟩ : ∃ a, a = moreQ (pBk b).dn m.p.s.hid.toNat (pBk b).dns.toNat m.p.s.dim.toNat := ⟨_, rfl⟩
    rw [show moreQ b.dn.xs m.s.hid.toNat b.dns.toNat m.s.dim.toNat = a2 from ha2.symm]
    rw [← ha2] at hR hL hq2
    have kp8 := kp7.fr0 f8
    have hO8 := hO7.fr0 f8
    have hF8 := hF7.tr f8
    clear kp7 hO7 hF7
    refine ev_arith rfl rfl rfl rfl rfl (by simp only [lowK, hiK]; omega) ?_
    refine ev_append1 (vs := [i64 (lN m.p y + a1), i64 (lN m.p y + a1 + a2)]) tabOk rfl rfl (fun _ => rfl) rfl rfl inf2 rfl (by omega) (fun _ => rfl) rfl rfl (fun v hv => by simp at hv; rcases hv with rfl | rfl <;> rfl) (allOne_ok rfl) rfl hO8 (by omega) (fun v' w9 bq hO9 f9 hn9 => ?_)
    have hvw := hv
    have kp9 := kp8.fr f9 (fun e => (hv p e).2 rfl)
    have hF9 : Fr no w w9 := hF8.trans f9 fun z hz e => by have := (hv z e).1; omega
    have hv9 : ∀ g, v'.ownBlock = some g → w.heap.size ≤ g ∧ g ≠ p := fun g hg => by
      have := kp8.lt
      have := hF8.size
      rcases hn9 g hg with h | h
      · exact hv g h
      · omega
    refine sA [] rfl ?_; refine ev_arith rfl rfl rfl rfl rfl (by simp only [lowK, hiK]; omega) ?_; refine sA [] rfl ?_
    refine fun a hA' => ⟨(y + 1, v'), by show m.bs.length - (y + 1) < m.bs.length - y; omega, ⟨by show y + 1 ≤ _; omega, hF9, kp9, ?_, hv9⟩, hA'.sub ⟨rfl, rfl, rfl, rfl, by show _ = some (i64 ((y + 1 : Nat) : Int)); rw [show ((y + 1 : Nat) : Int) = (y : Int) + 1 by omega]; rfl, trivial⟩⟩
    show Own w9 2 1 v' (1 + 2 * (y + 1)) ((rN m.p (y + 1)).map i64)
    rw [hR, List.map_append, show 1 + 2 * (y + 1) = 1 + 2 * y + 2 by omega]
    exact hO9
  · obtain rfl : y = m.bs.length := by have c : ¬ (y : Int) < m.bs.length := c; omega
    refine sA [] rfl ?_
    obtain ⟨vA, vc, rfl, hvcs, _⟩ := hO.slice
    exact ret1 (.inr rfl) rfl rfl ⟨⟨vA, vc, rfl, by rw [← rN_all, hlen]; exact hvcs⟩, hF⟩
end Go.Wk.YtdelgnflcfhhkaaGreatDoor
