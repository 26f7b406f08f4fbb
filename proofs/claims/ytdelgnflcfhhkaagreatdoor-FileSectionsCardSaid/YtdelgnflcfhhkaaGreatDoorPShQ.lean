/-
  Taken for this seat out of ShQ.
-/
import Derived.Test.YtdelgnflcfhhkaaGreatDoorPShN
set_option linter.unusedVariables false
namespace Go.Wk.YtdelgnflcfhhkaaGreatDoor
open Go Go.Wk Go.Proofs
def blkAt (s : Shp) (bs : List (Bk (List Int8))) (i : Nat) : Int := match bs[i]? with | some b => if (i : Int) < s.lay then blockQ s b else 161 | none => 161
abbrev blkN (s : Shp) (bs : List (Bk (List Int8))) : Nat := max s.lay.toNat bs.length
def tailQ (m : Md) : Int × Int × Int :=
  if ¬ (m.bend.length : Int) = 256 then (6, 0, 161) else if ¬ (m.gain.length : Int) = m.s.dim then (7, 0, 161) else if ¬ (m.un.length : Int) = m.s.voc * m.s.dim then (8, 0, 161)
  else if shiftQ [m.ls] = false then (8, 0, 162) else (0, 0, 0)
def partsQ (m : Md) (half : Int) : Int × Int × Int :=
  if ¬ (m.e.length : Int) = m.s.voc * m.s.dim then (3, 0, 161) else if ¬ (0 ≤ m.es ∧ m.es ≤ 24) then (3, 0, 162)
  else if ¬ (m.cos.length : Int) = m.s.ctx * half then (4, 0, 161) else if ¬ (m.sin.length : Int) = m.s.ctx * half then (4, 1, 161)
  else ((List.range (blkN m.s m.bs)).find? (fun i => !decide (blkAt m.s m.bs i = 0))).elim (tailQ m) fun i => (5, i, blkAt m.s m.bs i)
set_option maxHeartbeats 4000000 in
theorem wParts (m : LM) (w : World) (hm : m.At w) (hs : okS m.s) (hbl : m.bs.length ≤ 1000000) :
    CallsF Tryz.prog 76 [lmV m] w fun r w' => r = whV (partsQ m.p (halfS m.s)) ∧ Fr no w w' := by
  have hs' := hs
  refine callsF Tryz.func76 rfl rfl (by decide) rfl ?_
  refine sA [] rfl ?_
  refine ev_box rfl rfl rfl fun p w1 hp kp f1 => ?_
  refine ev_alloc rfl rfl inf115 (fun q w2 hq kq f2 => ?_)
  have kp2 := kp.fr0 f2
  have hf2 := f1.tr f2
  clear kp
  refine sA [] rfl ?_
  have hsh : Cs w2 (some ⟨p, 0, none⟩) (shpC m.s) :=
    (Cs.of_blk kp2).part 0 fun j u hj => match j, hj with
      | 0, h => h | 1, h => h | 2, h => h | 3, h => h | 4, h => h | 5, h => h | n + 6, h => by simp at h
  refine ev_loadAgg rfl rfl tabOk rfl rfl rfl hsh ?_
  refine ev_alloc rfl rfl inf35 (fun c w3 hc hC f3 => ?_)
  skip
  refine ev_storeAgg tabOk rfl rfl rfl rfl rfl rfl hC rfl (fun w4 kc f4 => ?_)
  have hs1 := f1.size
  have hs2 := f2.size
  have hs3 := f3.size
  have hpl := kp2.lt
  have hql := kq.lt
  have kp4 := (kp2.fr0 f3).fr f4 (fun e => by have : p = c := e; omega)
  have kq4 := (kq.fr0 f3).fr f4 (fun e => by have : q = c := e; omega)
  have hF4 : Fr no w w4 := (hf2.tr f3).trans f4 fun z hz e => by have : z = c := e; omega
  clear hsh kp2 kq hC
  refine sA [] rfl ?_; refine ev_loadAggB rfl rfl tabOk rfl rfl ‹_› (by rfl) ?_
  refine ev_call rfl rfl rfl (wHalf m.s w4) ?_
  rintro r w5 ⟨rfl, f5⟩
  have kp := kp4.fr0 f5
  have kq := kq4.fr0 f5
  have kc := kc.fr0 f5
  have hF := hF4.tr f5
  clear kp4 kq4 hF4
  obtain ⟨⟨g1, g2⟩, ⟨g3, g4⟩, ⟨g5, g6⟩, g7, g8, g9, ⟨g10, g11⟩, g12, g13⟩ := hs
  have hh := half_bd hs'
  have hm1 := mul_bd (show 0 ≤ m.s.voc by omega) g2 (show 0 ≤ m.s.dim by omega) g6
  have hm2 := mul_bd (show 0 ≤ m.s.ctx by omega) g4 (show 0 ≤ halfS m.s by omega) hh.2.1
  obtain ⟨hf, ehf⟩ : ∃ x, x = halfS m.s := ⟨_, rfl⟩
  rw [← ehf] at hm2 ⊢
  unfold partsQ
  refine sA [] rfl ?_; refine ev_loadB rfl rfl tabOk rfl rfl ‹_› (by rfl) ?_; refine sA [] rfl ?_; refine ev_loadB rfl rfl tabOk rfl rfl ‹_› (by rfl) ?_; refine sA [] rfl ?_; refine ev_loadB rfl rfl tabOk rfl rfl ‹_› (by rfl) ?_; refine ev_arith rfl rfl rfl rfl rfl (by simp only [lowK, hiK]; omega) ?_; refine sD [] rfl ?_; refine sD [] rfl ?_; refine sD [] rfl ?_
  refine ev_condD rfl (fun c1 => ?_) (fun c1 => ?_)
  · rw [if_pos (show ¬ (m.p.e.length : Int) = m.p.s.voc * m.p.s.dim from c1)]
    refine sA [] rfl ?_
    refine ev_build rfl rfl (v := .agg ⟨[i64 3, i64 0]⟩) rfl (fun w => by kernel_rfl) ?_
    skip
    refine ev_storeAgg tabOk rfl rfl rfl rfl rfl rfl kq rfl (fun wz kz fz => ?_)
    refine sA [] rfl ?_
    exact retG tabOk (.inr rfl) rfl [.agg ⟨[i64 3, i64 0]⟩, i64 161] ⟨⟨_, rfl, .inl ⟨rfl, _, rfl, rfl, Cs.of_blk kz⟩⟩, rfl, trivial⟩ ⟨rfl, hF.trans fz fun z hz e => by have : z = q := e; omega⟩
  rw [if_neg (show ¬ ¬ (m.p.e.length : Int) = m.p.s.voc * m.p.s.dim from c1)]
  refine sA [] rfl ?_; refine ev_loadB rfl rfl tabOk rfl rfl ‹_› (by rfl) ?_
  refine ev_call rfl rfl rfl (wBetween m.es 0 24 w5) ?_
  rintro r w6 ⟨rfl, rfl⟩
  refine sD [] rfl ?_; refine sD [] rfl ?_; refine sD [] rfl ?_
  by_cases c2 : 0 ≤ m.es ∧ m.es ≤ 24
  case neg =>
    rw [show (!decide (0 ≤ m.es ∧ m.es ≤ 24)) = true by rw [decide_eq_false c2]; rfl]
    rw [if_pos (show ¬ (0 ≤ m.p.es ∧ m.p.es ≤ 24) from c2)]
    refine sA [] rfl ?_
    refine ev_build rfl rfl (v := .agg ⟨[i64 3, i64 0]⟩) rfl (fun w => by kernel_rfl) ?_
    skip
    refine ev_storeAgg tabOk rfl rfl rfl rfl rfl rfl kq rfl (fun wz kz fz => ?_)
    refine sA [] rfl ?_
    exact retG tabOk (.inr rfl) rfl [.agg ⟨[i64 3, i64 0]⟩, i64 162] ⟨⟨_, rfl, .inl ⟨rfl, _, rfl, rfl, Cs.of_blk kz⟩⟩, rfl, trivial⟩ ⟨rfl, hF.trans fz fun z hz e => by have : z = q := e; omega⟩
  rw [show (!decide (0 ≤ m.es ∧ m.es ≤ 24)) = false by rw [decide_eq_true c2]; rfl]
  rw [if_neg (show ¬ ¬ (0 ≤ m.p.es ∧ m.p.es ≤ 24) from fun h => h c2)]
  refine sA [] rfl ?_; refine ev_loadB rfl rfl tabOk rfl rfl ‹_› (by rfl) ?_; refine sA [] rfl ?_; refine ev_loadB rfl rfl tabOk rfl rfl ‹_› (by rfl) ?_; refine sA [] rfl ?_; refine ev_arith rfl rfl rfl rfl rfl (by simp only [lowK, hiK]; omega) ?_; refine sD [] rfl ?_; refine sD [] rfl ?_; refine sD [] rfl ?_
  refine ev_condD rfl (fun c3 => ?_) (fun c3 => ?_)
  · rw [if_pos (show ¬ (m.p.cos.length : Int) = m.p.s.ctx * hf from c3)]
    refine sA [] rfl ?_
    refine ev_build rfl rfl (v := .agg ⟨[i64 4, i64 0]⟩) rfl (fun w => by kernel_rfl) ?_
    skip
    refine ev_storeAgg tabOk rfl rfl rfl rfl rfl rfl kq rfl (fun wz kz fz => ?_)
    refine sA [] rfl ?_
    exact retG tabOk (.inr rfl) rfl [.agg ⟨[i64 4, i64 0]⟩, i64 161] ⟨⟨_, rfl, .inl ⟨rfl, _, rfl, rfl, Cs.of_blk kz⟩⟩, rfl, trivial⟩ ⟨rfl, hF.trans fz fun z hz e => by have : z = q := e; omega⟩
  rw [if_neg (show ¬ ¬ (m.p.cos.length : Int) = m.p.s.ctx * hf from c3)]
  refine sA [] rfl ?_; refine ev_loadB rfl rfl tabOk rfl rfl ‹_› (by rfl) ?_; refine sA [] rfl ?_; refine ev_loadB rfl rfl tabOk rfl rfl ‹_› (by rfl) ?_; refine sA [] rfl ?_; refine ev_arith rfl rfl rfl rfl rfl (by simp only [lowK, hiK]; omega) ?_; refine sD [] rfl ?_; refine sD [] rfl ?_; refine sD [] rfl ?_
  refine ev_condD rfl (fun c4 => ?_) (fun c4 => ?_)
  · rw [if_pos (show ¬ (m.p.sin.length : Int) = m.p.s.ctx * hf from c4)]
    refine sA [] rfl ?_
    refine ev_build rfl rfl (v := .agg ⟨[i64 4, i64 1]⟩) rfl (fun w => by kernel_rfl) ?_
    skip
    refine ev_storeAgg tabOk rfl rfl rfl rfl rfl rfl kq rfl (fun wz kz fz => ?_)
    refine sA [] rfl ?_
    exact retG tabOk (.inr rfl) rfl [.agg ⟨[i64 4, i64 1]⟩, i64 161] ⟨⟨_, rfl, .inl ⟨rfl, _, rfl, rfl, Cs.of_blk kz⟩⟩, rfl, trivial⟩ ⟨rfl, hF.trans fz fun z hz e => by have : z = q := e; omega⟩
  rw [if_neg (show ¬ ¬ (m.p.sin.length : Int) = m.p.s.ctx * hf from c4)]
  have hNb : m.bs.length ≤ 1000000 := by omega
  obtain ⟨N, hN⟩ : ∃ N : Nat, (if m.s.lay < (m.bs.length : Int) then (m.bs.length : Int) else m.s.lay) = N ∧ N = blkN m.p.s m.p.bs := ⟨blkN m.p.s m.p.bs, by
    have e : m.p.bs.length = m.bs.length := by simp [LM.p]
    show _ = ((max m.s.lay.toNat m.p.bs.length : Nat) : Int)
    rw [e]; split <;> omega, rfl⟩
  refine sA [] rfl ?_; refine ev_loadB rfl rfl tabOk rfl rfl ‹_› (by rfl) ?_; refine sA [] rfl ?_; refine ev_loadB rfl rfl tabOk rfl rfl ‹_› (by rfl) ?_; refine sA [] rfl ?_
  rw [hN.1]
  refine ev_loop (α := Nat) (fun y => [(1, .pointer (some ⟨p, 0, none⟩)), (2, .pointer (some ⟨q, 0, none⟩)), (3, i64 0), (4, .pointer (some ⟨c, 0, none⟩)), (54, i64 N), (55, i64 y)])
    (fun y w' => y ≤ N ∧ Fr no w w' ∧ Blk w' p (lmC m) 47 ∧ Blk w' c (shpC m.s) 35 ∧ Blk w' q [i64 0, i64 0] 115 ∧ ∀ i < y, blkAt m.p.s m.p.bs i = 0) (fun y => N - y) 0 ⟨rfl, rfl, rfl, rfl, rfl, rfl, trivial⟩ ⟨Nat.zero_le _, hF, kp, kc, kq, fun i h => absurd h (Nat.not_lt_zero _)⟩ ?_
  clear hF kp kc kq
  rintro y w7 ⟨hy, hF, kp, kc, kq, hz⟩
  refine sC [] rfl ?_; refine sD [] rfl ?_
  refine ev_condD rfl (fun c5 => ?_) (fun c5 => ?_)
  · have hyN : y < N := by omega
    have hfind : ¬ blkAt m.p.s m.p.bs y = 0 → (List.range (blkN m.p.s m.p.bs)).find? (fun i => !decide (blkAt m.p.s m.p.bs i = 0)) = some y := fun h => by
      rw [← hN.2]
      refine List.find?_range_eq_some.2 ⟨by simpa using h, List.mem_range.2 hyN, fun j hj => by simpa using hz j hj⟩
    refine sA [] rfl ?_; refine ev_loadB rfl rfl tabOk rfl rfl ‹_› (by rfl) ?_; refine sD [] rfl ?_; refine sD [] rfl ?_
    refine ev_guardD rfl rfl (fun d1 => ?_) (fun d1 => ?_)
    · refine sA [] rfl ?_; refine ev_loadB rfl rfl tabOk rfl rfl ‹_› (by rfl) ?_; refine sC [] rfl ?_
      refine ev_condD rfl (fun d2 => ?_) (fun d2 => ?_)
      · have hyb : y < m.bs.length := by omega
        have hb : blkAt m.p.s m.p.bs y = blockQ m.s (pBk m.bs[y]) := by
          unfold blkAt
          rw [show m.p.bs[y]? = some (pBk m.bs[y]) by simp [LM.p, List.getElem?_eq_getElem hyb]]
          exact if_pos d1
        obtain ⟨g, o, hA, hblk⟩ := blk_at (hm.blk.fr0 hF) hyb
        refine ev_draw mixed (by kernel_rfl) ?_
        refine q_loadAggB rfl rfl tabOk rfl rfl ‹_› (by rfl) ?_; refine qA rfl ?_; refine q_loadB rfl rfl tabOk rfl rfl ‹_› (by rfl) ?_; refine qA rfl ?_
        refine q_indexAddr rfl rfl tabOk (congrArg (fun z => some (Value.slice z m.bs.length m.bc)) hA) rfl rfl (by omega) (by omega) ?_
        refine q_loadAgg rfl rfl tabOk rfl rfl rfl (fun w' h => hblk.fr0 h) ?_
        refine q_call rfl rfl rfl (fun w' hw' => (wBlock m.s m.bs[y] w' (by omega) (by omega)).mono fun u w'' z => ⟨z.1, hw'.tr z.2⟩) ?_
        refine qA rfl ?_
        refine q_end fun w8 f8 => ?_
        have kp8 := kp.fr0 f8
        have kq8 := kq.fr0 f8
        have kc8 := kc.fr0 f8
        have hF8 := hF.tr f8
        clear hblk kp kq kc hF
        rw [← hb]
        refine sC [] rfl ?_; refine sD [] rfl ?_
        refine ev_condD rfl (fun d3 => ?_) (fun d3 => ?_)
        · rw [hfind d3, Option.elim_some]
          refine sA [] rfl ?_
          refine ev_build rfl rfl (v := .agg ⟨[i64 5, i64 y]⟩) rfl (fun w => by kernel_rfl) ?_
          refine sA [] rfl ?_
          refine ev_storeAgg tabOk rfl rfl rfl rfl rfl rfl kq8 rfl (fun wz kz fz => ?_)
          refine sA [] rfl ?_
          exact retG tabOk (.inr rfl) rfl [.agg ⟨[i64 5, i64 y]⟩, i64 (blkAt m.p.s m.p.bs y)] ⟨⟨_, rfl, .inl ⟨rfl, _, rfl, rfl, Cs.of_blk kz⟩⟩, rfl, trivial⟩ ⟨rfl, hF8.trans fz fun z hz e => by have : z = q := e; omega⟩
        · refine sA [] rfl ?_; refine ev_arith rfl rfl rfl rfl rfl (by simp only [lowK, hiK]; omega) ?_; refine sA [] rfl ?_
          refine ev_next (y + 1) (by omega) ⟨by omega, hF8, kp8, kc8, kq8, fun i hi => by
            by_cases h : i = y
            · rw [h]; omega
            · exact hz i (by omega)⟩ ⟨rfl, rfl, rfl, rfl, rfl, by rw [show ((y + 1 : Nat) : Int) = (y : Int) + 1 by omega]; rfl, trivial⟩
      · have hb : blkAt m.p.s m.p.bs y = 161 := by
          unfold blkAt
          rw [show m.p.bs[y]? = none by simp [LM.p]; omega]
        rw [hfind (by omega), Option.elim_some, hb]
        refine sA [] rfl ?_
        refine ev_build rfl rfl (v := .agg ⟨[i64 5, i64 y]⟩) rfl (fun w => by kernel_rfl) ?_
        refine sA [] rfl ?_
        refine ev_storeAgg tabOk rfl rfl rfl rfl rfl rfl kq rfl (fun wz kz fz => ?_)
        refine sA [] rfl ?_
        exact retG tabOk (.inr rfl) rfl [.agg ⟨[i64 5, i64 y]⟩, i64 161] ⟨⟨_, rfl, .inl ⟨rfl, _, rfl, rfl, Cs.of_blk kz⟩⟩, rfl, trivial⟩ ⟨rfl, hF.trans fz fun z hz e => by have : z = q := e; omega⟩
    · have hb : blkAt m.p.s m.p.bs y = 161 := by
        unfold blkAt; split
        · rw [if_neg (show ¬ (y : Int) < m.p.s.lay from d1)]
        · rfl
      rw [hfind (by omega), Option.elim_some, hb]
      refine sA [] rfl ?_
      refine ev_build rfl rfl (v := .agg ⟨[i64 5, i64 y]⟩) rfl (fun w => by kernel_rfl) ?_
      refine sA [] rfl ?_
      refine ev_storeAgg tabOk rfl rfl rfl rfl rfl rfl kq rfl (fun wz kz fz => ?_)
      refine sA [] rfl ?_
      exact retG tabOk (.inr rfl) rfl [.agg ⟨[i64 5, i64 y]⟩, i64 161] ⟨⟨_, rfl, .inl ⟨rfl, _, rfl, rfl, Cs.of_blk kz⟩⟩, rfl, trivial⟩ ⟨rfl, hF.trans fz fun z hz e => by have : z = q := e; omega⟩
  · obtain rfl : y = N := by omega
    have hnone : (List.range (blkN m.p.s m.p.bs)).find? (fun i => !decide (blkAt m.p.s m.p.bs i = 0)) = none := by
      rw [List.find?_eq_none]
      intro i hi
      rw [decide_eq_true (hz i (by rw [hN.2]; exact List.mem_range.1 hi))]
      simp
    rw [hnone, Option.elim_none]
    unfold tailQ
    refine sA [] rfl ?_; refine ev_loadB rfl rfl tabOk rfl rfl ‹_› (by rfl) ?_; refine sC [] rfl ?_
    refine ev_condD rfl (fun c6 => ?_) (fun c6 => ?_)
    · rw [if_pos (show ¬ (m.p.bend.length : Int) = 256 from c6)]
      refine sA [] rfl ?_
      refine ev_build rfl rfl (v := .agg ⟨[i64 6, i64 0]⟩) rfl (fun w => by kernel_rfl) ?_
      skip
      refine ev_storeAgg tabOk rfl rfl rfl rfl rfl rfl kq rfl (fun wz kz fz => ?_)
      refine sA [] rfl ?_
      exact retG tabOk (.inr rfl) rfl [.agg ⟨[i64 6, i64 0]⟩, i64 161] ⟨⟨_, rfl, .inl ⟨rfl, _, rfl, rfl, Cs.of_blk kz⟩⟩, rfl, trivial⟩ ⟨rfl, hF.trans fz fun z hz e => by have : z = q := e; omega⟩
    rw [if_neg (show ¬ ¬ (m.p.bend.length : Int) = 256 from c6)]
    refine sA [] rfl ?_; refine ev_loadB rfl rfl tabOk rfl rfl ‹_› (by rfl) ?_; refine sA [] rfl ?_; refine ev_loadB rfl rfl tabOk rfl rfl ‹_› (by rfl) ?_; refine sD [] rfl ?_; refine sD [] rfl ?_; refine sD [] rfl ?_
    refine ev_condD rfl (fun c7 => ?_) (fun c7 => ?_)
    · rw [if_pos (show ¬ (m.p.gain.length : Int) = m.p.s.dim from c7)]
      refine sA [] rfl ?_
      refine ev_build rfl rfl (v := .agg ⟨[i64 7, i64 0]⟩) rfl (fun w => by kernel_rfl) ?_
      skip
      refine ev_storeAgg tabOk rfl rfl rfl rfl rfl rfl kq rfl (fun wz kz fz => ?_)
      refine sA [] rfl ?_
      exact retG tabOk (.inr rfl) rfl [.agg ⟨[i64 7, i64 0]⟩, i64 161] ⟨⟨_, rfl, .inl ⟨rfl, _, rfl, rfl, Cs.of_blk kz⟩⟩, rfl, trivial⟩ ⟨rfl, hF.trans fz fun z hz e => by have : z = q := e; omega⟩
    rw [if_neg (show ¬ ¬ (m.p.gain.length : Int) = m.p.s.dim from c7)]
    refine sA [] rfl ?_; refine ev_loadB rfl rfl tabOk rfl rfl ‹_› (by rfl) ?_; refine sA [] rfl ?_; refine ev_loadB rfl rfl tabOk rfl rfl ‹_› (by rfl) ?_; refine sA [] rfl ?_; refine ev_loadB rfl rfl tabOk rfl rfl ‹_› (by rfl) ?_; refine ev_arith rfl rfl rfl rfl rfl (by simp only [lowK, hiK]; omega) ?_; refine sD [] rfl ?_; refine sD [] rfl ?_; refine sD [] rfl ?_
    refine ev_condD rfl (fun c8 => ?_) (fun c8 => ?_)
    · rw [if_pos (show ¬ (m.p.un.length : Int) = m.p.s.voc * m.p.s.dim from c8)]
      refine sA [] rfl ?_
      refine ev_build rfl rfl (v := .agg ⟨[i64 8, i64 0]⟩) rfl (fun w => by kernel_rfl) ?_
      skip
      refine ev_storeAgg tabOk rfl rfl rfl rfl rfl rfl kq rfl (fun wz kz fz => ?_)
      refine sA [] rfl ?_
      exact retG tabOk (.inr rfl) rfl [.agg ⟨[i64 8, i64 0]⟩, i64 161] ⟨⟨_, rfl, .inl ⟨rfl, _, rfl, rfl, Cs.of_blk kz⟩⟩, rfl, trivial⟩ ⟨rfl, hF.trans fz fun z hz e => by have : z = q := e; omega⟩
    rw [if_neg (show ¬ ¬ (m.p.un.length : Int) = m.p.s.voc * m.p.s.dim from c8)]
    refine sA [] rfl ?_; refine ev_loadB rfl rfl tabOk rfl rfl ‹_› (by rfl) ?_
    refine ev_buildSlice tabOk rfl rfl rfl inf3 rfl rfl rfl (fun v hv => by simp at hv; rcases hv with rfl; rfl) rfl (fun g8 w8 hg8 hb8 f8 => ?_)
    have kq8 := kq.fr0 f8
    have hF8 := hF.tr f8
    refine ev_call rfl rfl rfl (wShifts _ [m.ls] 1 w8 (Cs.of_blk hb8) (by simp)) ?_
    rintro r w9 ⟨rfl, rfl⟩
    clear kq hF kp kc hb8
    rw [show [m.ls] = [m.p.ls] from rfl]
    cases shiftQ [m.p.ls] with
    | false =>
      rw [if_pos rfl]
      refine sA [] rfl ?_
      refine ev_build rfl rfl (v := .agg ⟨[i64 8, i64 0]⟩) rfl (fun w => by kernel_rfl) ?_
      skip
      refine ev_storeAgg tabOk rfl rfl rfl rfl rfl rfl kq8 rfl (fun wz kz fz => ?_)
      refine sA [] rfl ?_
      exact retG tabOk (.inr rfl) rfl [.agg ⟨[i64 8, i64 0]⟩, i64 162] ⟨⟨_, rfl, .inl ⟨rfl, _, rfl, rfl, Cs.of_blk kz⟩⟩, rfl, trivial⟩ ⟨rfl, hF8.trans fz fun z hz e => by have : z = q := e; omega⟩
    | true =>
      rw [if_neg (by simp)]
      refine sA [] rfl ?_
      refine ev_build rfl rfl (v := .agg ⟨[i64 0, i64 0]⟩) rfl (fun w => by kernel_rfl) ?_
      skip
      refine ev_storeAgg tabOk rfl rfl rfl rfl rfl rfl kq8 rfl (fun wz kz fz => ?_)
      refine sA [] rfl ?_
      exact retG tabOk (.inr rfl) rfl [.agg ⟨[i64 0, i64 0]⟩, i64 0] ⟨⟨_, rfl, .inl ⟨rfl, _, rfl, rfl, Cs.of_blk kz⟩⟩, rfl, trivial⟩ ⟨rfl, hF8.trans fz fun z hz e => by have : z = q := e; omega⟩
end Go.Wk.YtdelgnflcfhhkaaGreatDoor
