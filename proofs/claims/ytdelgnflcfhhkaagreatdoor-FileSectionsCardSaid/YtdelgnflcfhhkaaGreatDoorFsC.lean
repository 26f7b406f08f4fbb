/-
  Chapter 17: the document's Sections: the walk.
-/
import Derived.Test.YtdelgnflcfhhkaaGreatDoorFsB
set_option linter.unusedVariables false
set_option linter.unusedSimpArgs false
namespace Go.Wk.YtdelgnflcfhhkaaGreatDoor
open Go Go.Wk Go.Proofs

/-- the document's sections that are being written -/
structure QD (wi w : World) (v : Value) (l : Prs) : Prop where
  o : Own w 32 3 v l.length ((accS l 0).flatMap secC)
  vg : ∀ g, v.ownBlock = some g → wi.heap.size ≤ g
  fr : Fr no wi w
  tb : totP l ≤ 1000000 * l.length
theorem QD.fr0 {wi w w' : World} {v : Value} {l : Prs} (h : QD wi w v l) (hf : Fr no w w') : QD wi w' v l := ⟨h.o.fr0 hf, h.vg, h.fr.tr hf, h.tb⟩
theorem QD.add {wi w w' : World} {v v' : Value} {l : Prs} {n : List UInt8} {k : Nat} (h : QD wi w v l) (ho : Own w' 32 3 v' (l.length + 1) ((accS (l ++ [(n, k)]) 0).flatMap secC)) (hn : NB w v v') (hf : Fr (fun c => v.ownBlock = some c) w w') (hk : k ≤ 1000000) : QD wi w' v' (l ++ [(n, k)]) := by
  have hT : totP (l ++ [(n, k)]) = totP l + k := by rw [totP_app]; simp [totP]
  have htb := h.tb
  refine ⟨by rw [List.length_append]; exact ho, fun g hg => ?_, h.fr.trans hf fun z hz e => by have := h.vg z e; omega, by rw [hT, List.length_append, List.length_singleton]; omega⟩
  rcases hn g hg with z | z
  · exact h.vg g z
  · exact Nat.le_trans h.fr.size z
def pr10 (i : Nat) (b : Bk (List Int8)) (k : Nat) : List UInt8 × Nat := (headN i ++ (SHIFTS :: rowN).getD k [], (8 :: b.frs.map List.length).getD k 0)
def blkT (i : Nat) (b : Bk (List Int8)) (k : Nat) : Prs := (List.range k).map (pr10 i b)
theorem blkT_succ (i : Nat) (b : Bk (List Int8)) (k : Nat) : blkT i b (k + 1) = blkT i b k ++ [pr10 i b k] := by
  unfold blkT; rw [List.range_succ, List.map_append]; rfl
theorem blkT_len (i : Nat) (b : Bk (List Int8)) (k : Nat) : (blkT i b k).length = k := by unfold blkT; rw [List.length_map, List.length_range]
theorem blkT_10 (i : Nat) (b : Bk (List Int8)) : blkT i b 10 = blkP i b := rfl
set_option maxHeartbeats 32000000 in
set_option maxRecDepth 10000 in
theorem hSections (s : List UInt8) (w : World) (hs : s.length ≤ 140737488351240) :
    CallsF Tryz.prog 6 [.string (sOf s)] w fun r w' => ∃ A c, r = .tuple #[.slice A (sectA s).1.length c, i64 (sectA s).2] ∧ Cs w' A ((sectA s).1.flatMap secC) ∧ Fr no w w' := by
  have hsq := decA_smq s
  unfold sectA
  refine callsF Tryz.func6 rfl rfl (by decide) rfl ?_
  refine sA [] rfl ?_
  refine ev_call rfl rfl rfl (refDecode s w hs) ?_
  rintro r w1 ⟨m, rfl, hmp, hmA, hF0⟩
  obtain ⟨⟨Y, e⟩, hY⟩ : ∃ z, z = decA s := ⟨_, rfl⟩
  rw [← hY] at hsq hmp ⊢
  have hmp : m.p = Y := hmp
  refine sA [] rfl ?_
  refine ev_alloc rfl rfl inf56 (fun p4 w2 hp4 k4 f2 => ?_)
  refine ev_storeAgg tabOk rfl rfl rfl rfl rfl rfl k4 rfl (fun w3 k43 f3 => ?_)
  have h13 : Fr no w1 w3 := f2.trans f3 fun z hz e => by have : z = p4 := e; omega
  have k4i : Blk w3 p4 (lmC m) 56 := k43
  have hmi := hmA.fr0 h13
  have hF := hF0.tr h13
  clear k4 k43
  refine sC [] rfl ?_; refine sC [] rfl ?_
  refine ev_condD rfl (fun c => ?_) (fun c => ?_)
  · have he : ¬ e = 0 := by simpa using c
    rw [if_neg (show ¬ (Y, e).2 = 0 from he)]
    refine sA [] rfl ?_
    refine ev_buildSlice tabOk rfl rfl rfl inf32 rfl rfl rfl (by simp) rfl (fun q w6 hq kq f6 => ?_)
    refine sA [] rfl ?_
    exact ret2 (.inr rfl) rfl rfl rfl ⟨some ⟨q, 0, none⟩, 0, rfl, Cs.nil _ _, hF.tr f6⟩
  have he : e = 0 := by simpa using c
  rw [if_pos (show (Y, e).2 = 0 from he)]
  show H _ _ (fun e w' => ∃ v, e = .returned v ∧ ∃ A c, v = .tuple #[.slice A (secQ Y).length c, i64 0] ∧ Cs w' A ((secQ Y).flatMap secC) ∧ Fr no w w') _ _ _ _ _
  have hsq : SmQ Y := hsq
  rw [← hmp] at hsq ⊢
  have htl : ∀ t ∈ m.V.texts, t.length ≤ 64 := hsq.tl
  have htn : m.V.texts.length ≤ 512 := hsq.tx
  have hmn : m.V.merges.length ≤ 1024 := hsq.mg
  have hbn : m.bs.length ≤ 8 := by have := hsq.bs; rwa [show m.p.bs.length = m.bs.length from List.length_map _] at this
  obtain ⟨r1, r2, r3, r4, r5, r6⟩ := hsq.rw
  have r1 : m.e.xs.length ≤ 100000 := r1
  have r2 : m.cos.xs.length ≤ 100000 := r2
  have r3 : m.sin.xs.length ≤ 100000 := r3
  have r4 : m.bend.xs.length ≤ 100000 := r4
  have r5 : m.gain.xs.length ≤ 100000 := r5
  have r6 : m.un.xs.length ≤ 100000 := r6
  have hts := txtS_le htl
  clear c
  have k4 := k4i
  have hm := hmi
  refine sA [] rfl ?_
  refine ev_loop (α := Nat) (fun k => [(4, ptA p4 0), (6, i64 (txtS (m.V.texts.take k))), (7, i64 k)])
    (fun k w' => k ≤ m.V.texts.length ∧ w3 = w') (fun k => m.V.texts.length - k) 0 ⟨rfl, rfl, rfl, trivial⟩ ⟨Nat.zero_le _, rfl⟩ ?_
  rintro k w7 ⟨hk, rfl⟩
  refine sA [] rfl ?_; refine ev_loadB rfl rfl tabOk rfl rfl ‹_› (by rfl) ?_; refine sD [] rfl ?_; refine sD [] rfl ?_; refine sD [] rfl ?_
  refine ev_condD rfl (fun c => ?_) (fun c => ?_)
  · have hkl : k < m.V.texts.length := by omega
    have htk := txtS_take hkl
    have h1 := htl m.V.texts[k] (List.getElem_mem hkl)
    have h2 : txtS (m.V.texts.take k) ≤ 65 * 512 := by
      have := txtS_le (l := m.V.texts.take k) fun t ht => htl t (List.mem_of_mem_take ht)
      have := List.length_take (i := k) (l := m.V.texts)
      omega
    obtain ⟨g, ob, hA, hc⟩ := hm.voc.1 k (sv m.V.texts[k]) (by rw [List.getElem?_map, List.getElem?_eq_getElem hkl]; rfl)
    have hc : w3.cell? ⟨g, ob + (k : Int).toNat * 1, none⟩ = some (sv m.V.texts[k]) := by rw [show (k : Int).toNat * 1 = k by omega]; exact hc
    refine sA [] rfl ?_; refine ev_loadB rfl rfl tabOk rfl rfl ‹_› (by rfl) ?_; refine sA [] rfl ?_
    refine ev_indexAddr rfl rfl tabOk (congrArg (fun z => some (Value.slice z m.V.texts.length m.tc)) hA) rfl rfl (by omega) (by omega) ?_
    refine ev_load rfl rfl tabOk rfl rfl ‹_› ?_; refine sA [] rfl ?_; refine ev_arith rfl rfl rfl rfl rfl (by simp only [lowK, hiK]; omega) ?_; refine ev_arith rfl rfl rfl rfl rfl (by simp only [lowK, hiK]; omega) ?_; refine sA [] rfl ?_; refine ev_arith rfl rfl rfl rfl rfl (by simp only [lowK, hiK]; omega) ?_; refine sA [] rfl ?_
    refine ev_next (k + 1) (by omega) ⟨by omega, rfl⟩ ⟨rfl, ?_, by show _ = some (i64 ((k + 1 : Nat) : Int)); rw [show ((k + 1 : Nat) : Int) = (k : Int) + 1 by omega]; rfl, trivial⟩
    show _ = some (i64 ((txtS (m.V.texts.take (k + 1)) : Nat) : Int))
    rw [htk, show ((txtS (m.V.texts.take k) + (1 + m.V.texts[k].length) : Nat) : Int) = (txtS (m.V.texts.take k) : Int) + (1 + (m.V.texts[k].length : Int)) by omega]
    rfl
  have hkn : k = m.V.texts.length := by omega
  subst hkn
  rw [List.take_length]
  clear c hk
  refine sA [] rfl ?_
  refine ev_buildSlice tabOk rfl rfl rfl inf32 rfl rfl rfl (by simp) rfl (fun q w6 hq kq f6 => ?_)
  have M : QD w3 w6 (.slice (some ⟨q, 0, none⟩) 0 0) [] := ⟨own_of_blk (m := 0) (sz := 3) kq rfl (by omega), (fun g hg => by cases hg; exact hq), f6, Nat.zero_le _⟩
  clear k4 kq
  have k4 := k4i.fr0 M.fr
  skip
  refine ev_call rfl rfl rfl (hSection (.slice (some ⟨q, 0, none⟩) 0 0) _ [109, 97, 103, 105, 99] (8) _ M.o (by simp) (by omega) M.tb) ?_
  rintro v0 wa0 ⟨o0, n0, g0⟩
  have M := M.add o0 n0 g0 (by omega)
  clear k4 o0 n0 g0
  have k4 := k4i.fr0 M.fr
  refine sA [] rfl ?_
  refine ev_call rfl rfl rfl (hSection v0 _ [115, 104, 97, 112, 101] (12) _ M.o (by simp) (by omega) M.tb) ?_
  rintro v1 wa1 ⟨o1, n1, g1⟩
  have M := M.add o1 n1 g1 (by omega)
  clear k4 o1 n1 g1
  have k4 := k4i.fr0 M.fr
  refine sA [] rfl ?_
  refine ev_call rfl rfl rfl (hSection v1 _ [115, 104, 105, 102, 116, 115] (2) _ M.o (by simp) (by omega) M.tb) ?_
  rintro v2 wa2 ⟨o2, n2, g2⟩
  have M := M.add o2 n2 g2 (by omega)
  clear k4 o2 n2 g2
  have k4 := k4i.fr0 M.fr
  refine sA [] rfl ?_
  refine ev_call rfl rfl rfl (hSection v2 _ [116, 101, 120, 116, 115] (txtS m.V.texts) _ M.o (by simp) (by omega) M.tb) ?_
  rintro v3 wa3 ⟨o3, n3, g3⟩
  have M := M.add o3 n3 g3 (by omega)
  clear k4 o3 n3 g3
  have k4 := k4i.fr0 M.fr
  refine sA [] rfl ?_; refine ev_loadB rfl rfl tabOk rfl rfl ‹_› (by rfl) ?_; refine sA [] rfl ?_; refine ev_arith rfl rfl rfl rfl rfl (by simp only [lowK, hiK]; omega) ?_; refine ev_arith rfl rfl rfl rfl rfl (by simp only [lowK, hiK]; omega) ?_
  rw [show (2 : Int) + 6 * (m.V.merges.length : Int) = ((2 + 6 * m.V.merges.length : Nat) : Int) by omega]
  refine ev_call rfl rfl rfl (hSection v3 _ [109, 101, 114, 103, 101, 115] (2 + 6 * m.V.merges.length) _ M.o (by simp) (by omega) M.tb) ?_
  rintro v4 wa4 ⟨o4, n4, g4⟩
  have M := M.add o4 n4 g4 (by omega)
  clear k4 o4 n4 g4
  have k4 := k4i.fr0 M.fr
  refine sA [] rfl ?_; refine ev_loadB rfl rfl tabOk rfl rfl ‹_› (by rfl) ?_; refine sA [] rfl ?_
  refine ev_call rfl rfl rfl (hSection v4 _ [101, 109, 98, 101, 100] (m.e.xs.length) _ M.o (by simp) (by omega) M.tb) ?_
  rintro v5 wa5 ⟨o5, n5, g5⟩
  have M := M.add o5 n5 g5 (by omega)
  clear k4 o5 n5 g5
  have k4 := k4i.fr0 M.fr
  refine sA [] rfl ?_; refine ev_loadB rfl rfl tabOk rfl rfl ‹_› (by rfl) ?_; refine sA [] rfl ?_
  refine ev_call rfl rfl rfl (hSection v5 _ [99, 111, 115] (m.cos.xs.length) _ M.o (by simp) (by omega) M.tb) ?_
  rintro v6 wa6 ⟨o6, n6, g6⟩
  have M := M.add o6 n6 g6 (by omega)
  clear k4 o6 n6 g6
  have k4 := k4i.fr0 M.fr
  refine sA [] rfl ?_; refine ev_loadB rfl rfl tabOk rfl rfl ‹_› (by rfl) ?_; refine sA [] rfl ?_
  refine ev_call rfl rfl rfl (hSection v6 _ [115, 105, 110] (m.sin.xs.length) _ M.o (by simp) (by omega) M.tb) ?_
  rintro v7 wa7 ⟨o7, n7, g7⟩
  have M := M.add o7 n7 g7 (by omega)
  clear k4 o7 n7 g7
  have k4 := k4i.fr0 M.fr
  obtain ⟨v, hv⟩ : ∃ v, v = v7 := ⟨_, rfl⟩
  rw [← hv] at M ⊢
  have M : QD w3 _ v (headP m.p ++ blksP m.p.bs 0) := M
  have hhl : (headP m.p).length = 8 := rfl
  refine sA [] rfl ?_
  refine ev_loop (α := Nat × Value) (fun z => [(4, ptA p4 0), (8, z.2), (9, i64 z.1)])
    (fun z w' => z.1 ≤ m.bs.length ∧ QD w3 w' z.2 (headP m.p ++ blksP m.p.bs z.1)) (fun z => m.bs.length - z.1) (0, v) ⟨rfl, rfl, rfl, trivial⟩ ⟨Nat.zero_le _, M⟩ ?_
  clear M k4 hv
  rintro ⟨i, v⟩ wl ⟨hi, M⟩
  have hi : i ≤ m.bs.length := hi
  simp only at M
  have k4 := k4i.fr0 M.fr
  refine sA [] rfl ?_; refine ev_loadB rfl rfl tabOk rfl rfl ‹_› (by rfl) ?_; refine sD [] rfl ?_; refine sD [] rfl ?_; refine sD [] rfl ?_
  refine ev_condD rfl (fun c => ?_) (fun c => ?_)
  · have hil : i < m.bs.length := by have c : (i : Int) < m.bs.length := c; omega
    have hm := hmi.fr0 M.fr
    obtain ⟨gb, ob, hbA, hbc⟩ := blk_at hm.blk hil
    have hilp : i < m.p.bs.length := by rw [show m.p.bs.length = m.bs.length from List.length_map _]; exact hil
    have hbl := blksP_len m.p.bs i
    have hsu := blksP_succ m.p.bs hilp
    have hpb : m.p.bs[i] = pBk m.bs[i] := by simp [LM.p]
    have hbr := hsq.br (pBk m.bs[i]) (List.mem_map_of_mem (List.getElem_mem hil))
    rw [hpb] at hsu
    obtain ⟨b, hb⟩ : ∃ b, b = m.bs[i] := ⟨_, rfl⟩
    rw [← hb] at hbc hsu hbr
    refine sA [] rfl ?_; refine ev_loadB rfl rfl tabOk rfl rfl ‹_› (by rfl) ?_; refine sA [] rfl ?_
    refine ev_indexAddr rfl rfl tabOk (congrArg (fun z => some (Value.slice z m.bs.length m.bc)) hbA) rfl rfl (by omega) (by omega) ?_
    refine ev_loadAgg rfl rfl tabOk rfl rfl rfl hbc ?_
    refine ev_alloc rfl rfl inf86 (fun pb u1 hpb2 kb e1 => ?_)
    refine ev_storeAgg tabOk rfl rfl rfl rfl rfl rfl kb rfl (fun u2 kb2 e2 => ?_)
    have h12 : Fr no wl u2 := e1.trans e2 fun z hz e => by have : z = pb := e; omega
    have kb : Blk u2 pb (bkC b) 86 := kb2
    have M := M.fr0 h12
    clear kb2 k4
    have k4 := k4i.fr0 M.fr
    refine sA [] rfl ?_
    refine ev_buildSlice tabOk rfl rfl rfl inf9 rfl rfl rfl (fun v hv => by simp at hv; rcases hv with rfl | rfl | rfl | rfl | rfl | rfl | rfl | rfl | rfl | rfl <;> rfl) rfl (fun qn u3 hqn kn e3 => ?_)
    have kn : Blk u3 qn ((SHIFTS :: rowN).map sv) 9 := kn
    have M := M.fr0 e3
    have kb := kb.fr0 e3
    clear k4
    have k4 := k4i.fr0 M.fr
    refine sA [] rfl ?_; refine ev_loadB rfl rfl tabOk rfl rfl ‹_› (by rfl) ?_; refine sA [] rfl ?_; refine ev_loadB rfl rfl tabOk rfl rfl ‹_› (by rfl) ?_; refine sA [] rfl ?_; refine ev_loadB rfl rfl tabOk rfl rfl ‹_› (by rfl) ?_; refine sA [] rfl ?_; refine ev_loadB rfl rfl tabOk rfl rfl ‹_› (by rfl) ?_; refine sA [] rfl ?_; refine ev_loadB rfl rfl tabOk rfl rfl ‹_› (by rfl) ?_; refine sA [] rfl ?_; refine ev_loadB rfl rfl tabOk rfl rfl ‹_› (by rfl) ?_; refine sA [] rfl ?_; refine ev_loadB rfl rfl tabOk rfl rfl ‹_› (by rfl) ?_; refine sA [] rfl ?_; refine ev_loadB rfl rfl tabOk rfl rfl ‹_› (by rfl) ?_; refine sA [] rfl ?_; refine ev_loadB rfl rfl tabOk rfl rfl ‹_› (by rfl) ?_; refine sA [] rfl ?_
    refine ev_buildSlice tabOk rfl rfl rfl inf3 rfl rfl rfl (fun v hv => by simp at hv; rcases hv with rfl | rfl | rfl | rfl | rfl | rfl | rfl | rfl | rfl | rfl <;> rfl) rfl (fun qz u4 hqz kz e4 => ?_)
    have kz : Blk u4 qz ((8 :: (pBk b).frs.map List.length).map fun (n : Nat) => i64 n) 3 := kz
    have M := M.fr0 e4
    have kn := kn.fr0 e4
    clear k4 kb
    refine sA [] rfl ?_
    refine ev_loop (α := Nat × Value) (fun z => [(4, ptA p4 0), (8, z.2), (9, i64 i), (11, .slice (some ⟨qn, 0, none⟩) 10 10), (12, .slice (some ⟨qz, 0, none⟩) 10 10), (13, i64 z.1)])
      (fun z w' => z.1 ≤ 10 ∧ QD w3 w' z.2 (headP m.p ++ blksP m.p.bs i ++ blkT i (pBk b) z.1) ∧ Blk w' qn ((SHIFTS :: rowN).map sv) 9 ∧ Blk w' qz ((8 :: (pBk b).frs.map List.length).map fun (n : Nat) => i64 n) 3) (fun z => 10 - z.1) (0, v) ⟨rfl, rfl, rfl, rfl, rfl, rfl, trivial⟩ ⟨Nat.zero_le _, by show QD w3 _ v (headP m.p ++ blksP m.p.bs i ++ []); rw [List.append_nil]; exact M, kn, kz⟩ ?_
    clear M kn kz
    rintro ⟨k, v⟩ wk ⟨hk, M, kn, kz⟩
    have hk : k ≤ 10 := hk
    simp only at M
    refine sC [] rfl ?_; refine sC [] rfl ?_
    refine ev_condD rfl (fun c2 => ?_) (fun c2 => ?_)
    · have hk10 : k < 10 := by have c2 : (k : Int) < 10 := c2; omega
      have hlen : (headP m.p ++ blksP m.p.bs i ++ blkT i (pBk b) k).length ≤ 1000000 := by rw [List.length_append, List.length_append, hbl, blkT_len]; omega
      obtain ⟨nm, hnm⟩ : ∃ nm, nm = (SHIFTS :: rowN).getD k [] := ⟨_, rfl⟩
      obtain ⟨zz, hzz⟩ : ∃ zz, zz = (8 :: (pBk b).frs.map List.length).getD k 0 := ⟨_, rfl⟩
      have hnl : nm.length ≤ 100 := by
        rw [hnm]
        match k, hk10 with
        | 0, _ => decide
        | 1, _ => decide
        | 2, _ => decide
        | 3, _ => decide
        | 4, _ => decide
        | 5, _ => decide
        | 6, _ => decide
        | 7, _ => decide
        | 8, _ => decide
        | 9, _ => decide
        | k + 10, h => exact absurd h (by omega)
      have hpr : pr10 i (pBk b) k = (headN i ++ nm, zz) := by rw [hnm, hzz]; rfl
      have hzl : zz ≤ 1000000 := by
        rw [hzz]
        match k with
        | 0 => show 8 ≤ 1000000; omega
        | k + 1 =>
          show ((pBk b).frs.map List.length).getD k 0 ≤ 1000000
          by_cases h9 : k < (pBk b).frs.length
          · have := hbr (pBk b).frs[k] (List.getElem_mem h9)
            rw [List.getD_eq_getElem?_getD, List.getElem?_map, List.getElem?_eq_getElem h9]
            show ((pBk b).frs[k]).length ≤ 1000000
            omega
          · rw [List.getD_eq_getElem?_getD, List.getElem?_map, List.getElem?_eq_none (by omega)]; exact Nat.zero_le _
      have hkn1 : k < ((SHIFTS :: rowN).map sv).length := hk10
      have hkz1 : k < (8 :: (pBk b).frs.map List.length).length := hk10
      have hcn : ((SHIFTS :: rowN).map sv)[k]? = some (sv nm) := by
        have h : k < (SHIFTS :: rowN).length := hk10
        rw [hnm, List.getElem?_map, List.getElem?_eq_getElem h, List.getD_eq_getElem?_getD, List.getElem?_eq_getElem h]; rfl
      have hcz : ((8 :: (pBk b).frs.map List.length).map fun (n : Nat) => i64 n)[k]? = some (i64 zz) := by
        rw [hzz, List.getElem?_map, List.getElem?_eq_getElem hkz1, List.getD_eq_getElem?_getD, List.getElem?_eq_getElem hkz1]; rfl
      have hof : 0 + (k : Int).toNat * 1 = k := by omega
      refine sA [] rfl ?_
      refine mixC_in (fun w' => Blk w' qn ((SHIFTS :: rowN).map sv) 9 ∧ Blk w' qz ((8 :: (pBk b).frs.map List.length).map fun (n : Nat) => i64 n) 3) mixed (fun u g0 => ?_)
      have M := M.fr0 g0
      have kn := kn.fr0 g0
      have kz := kz.fr0 g0
      refine mA rfl (by kernel_rfl) (by kernel_rfl) ?_
      refine m_indexAddr 7 rfl rfl rfl (by kernel_rfl) (by kernel_rfl) rfl rfl tabOk rfl rfl rfl (by omega) (by omega) ?_
      refine m_load 8 rfl rfl rfl (by kernel_rfl) (by kernel_rfl) rfl rfl tabOk rfl rfl (fun w' h => h.1.cell (by rw [nthV_eq, hof]; exact hcn)) ?_
      refine m_indexAddr 12 rfl rfl rfl (by kernel_rfl) (by kernel_rfl) rfl rfl tabOk rfl rfl rfl (by omega) (by omega) ?_
      refine m_load 13 rfl rfl rfl (by kernel_rfl) (by kernel_rfl) rfl rfl tabOk rfl rfl (fun w' h => h.2.cell (by rw [nthV_eq, hof]; exact hcz)) ?_
      refine mix1 rfl rfl ?_ ⟨kn, kz⟩
      refine ev_call rfl rfl rfl (hDecimal i u (by omega)) ?_
      rintro r u5 ⟨rfl, rfl⟩
      refine mix_op ?_
      refine m_concat 3 rfl rfl rfl (by kernel_rfl) (by kernel_rfl) rfl rfl rfl rfl (by simp) ?_
      refine m_concat 4 rfl rfl rfl (by kernel_rfl) (by kernel_rfl) rfl rfl rfl rfl (by simp) ?_
      rw [show [98, 108, 111, 99, 107, 32] ++ [UInt8.ofNat (48 + i)] ++ [46] = headN i from rfl]
      have hhn : (headN i).length = 8 := rfl
      refine m_concat 9 rfl rfl rfl (by kernel_rfl) (by kernel_rfl) rfl rfl rfl rfl (by rw [hhn]; omega) ?_
      refine mix1 rfl rfl ?_ ⟨kn, kz⟩
      refine ev_call rfl rfl rfl (hSection v _ (headN i ++ nm) zz u5 M.o hlen hzl M.tb) ?_
      rintro v' u6 ⟨oo, nn, gg⟩
      have kn := kn.fr gg (fun e => blk_own_ne kn M.o e (by decide) rfl)
      have kz := kz.fr gg (fun e => blk_own_ne kz M.o e (by decide) rfl)
      have M := M.add oo nn gg hzl
      refine mix_op ?_
      refine mA rfl (by kernel_rfl) (by kernel_rfl) ?_
      refine mix_out rfl ?_ ⟨kn, kz⟩
      refine sA [] rfl ?_; refine ev_arith rfl rfl rfl rfl rfl (by simp only [lowK, hiK]; omega) ?_; refine sA [] rfl ?_
      refine ev_next (k + 1, v') (by show 10 - (k + 1) < 10 - k; omega) ⟨by show k + 1 ≤ 10; omega, ?_, kn, kz⟩ ⟨rfl, rfl, rfl, rfl, rfl, by show _ = some (i64 ((k + 1 : Nat) : Int)); rw [show ((k + 1 : Nat) : Int) = (k : Int) + 1 by omega]; rfl, trivial⟩
      show QD w3 u6 v' (headP m.p ++ blksP m.p.bs i ++ blkT i (pBk b) (k + 1))
      rw [blkT_succ, hpr, ← List.append_assoc]
      exact M
    have hk10 : k = 10 := by have c2 : ¬ (k : Int) < 10 := c2; omega
    subst hk10
    rw [blkT_10, List.append_assoc, ← hsu] at M
    refine sA [] rfl ?_; refine ev_arith rfl rfl rfl rfl rfl (by simp only [lowK, hiK]; omega) ?_; refine sA [] rfl ?_
    exact ev_next (i + 1, v) (by show m.bs.length - (i + 1) < m.bs.length - i; omega) ⟨by show i + 1 ≤ _; omega, M⟩ ⟨rfl, rfl, by show _ = some (i64 ((i + 1 : Nat) : Int)); rw [show ((i + 1 : Nat) : Int) = (i : Int) + 1 by omega]; rfl, trivial⟩
  have hin : i = m.bs.length := by have c : ¬ (i : Int) < m.bs.length := c; omega
  have hbl := blksP_len m.p.bs i
  refine sA [] rfl ?_; refine ev_loadB rfl rfl tabOk rfl rfl ‹_› (by rfl) ?_; refine sA [] rfl ?_
  refine ev_call rfl rfl rfl (hSection v _ [98, 101, 110, 100] (m.bend.xs.length) _ M.o (by simp only [List.length_append, hbl, hhl, List.length_singleton]; omega) (by omega) M.tb) ?_
  rintro v8 wa8 ⟨o8, n8, g8⟩
  have M := M.add o8 n8 g8 (by omega)
  clear k4 o8 n8 g8
  have k4 := k4i.fr0 M.fr
  refine sA [] rfl ?_; refine ev_loadB rfl rfl tabOk rfl rfl ‹_› (by rfl) ?_; refine sA [] rfl ?_
  refine ev_call rfl rfl rfl (hSection v8 _ [103, 97, 105, 110] (m.gain.xs.length) _ M.o (by simp only [List.length_append, hbl, hhl, List.length_singleton]; omega) (by omega) M.tb) ?_
  rintro v9 wa9 ⟨o9, n9, g9⟩
  have M := M.add o9 n9 g9 (by omega)
  clear k4 o9 n9 g9
  have k4 := k4i.fr0 M.fr
  refine sA [] rfl ?_; refine ev_loadB rfl rfl tabOk rfl rfl ‹_› (by rfl) ?_; refine sA [] rfl ?_
  refine ev_call rfl rfl rfl (hSection v9 _ [117, 110, 101, 109, 98, 101, 100] (m.un.xs.length) _ M.o (by simp only [List.length_append, hbl, hhl, List.length_singleton]; omega) (by omega) M.tb) ?_
  rintro v10 wa10 ⟨o10, n10, g10⟩
  have M := M.add o10 n10 g10 (by omega)
  clear k4 o10 n10 g10
  have k4 := k4i.fr0 M.fr
  refine sA [] rfl ?_
  refine ev_call rfl rfl rfl (hSection v10 _ [100, 105, 103, 101, 115, 116] (8) _ M.o (by simp only [List.length_append, hbl, hhl, List.length_singleton]; omega) (by omega) M.tb) ?_
  rintro v11 wa11 ⟨o11, n11, g11⟩
  have M := M.add o11 n11 g11 (by omega)
  clear k4 o11 n11 g11
  have k4 := k4i.fr0 M.fr
  rw [hin] at M
  have hsec : secP m.p = headP m.p ++ blksP m.p.bs m.bs.length ++ [([98, 101, 110, 100], m.bend.xs.length)] ++ [([103, 97, 105, 110], m.gain.xs.length)] ++ [([117, 110, 101, 109, 98, 101, 100], m.un.xs.length)] ++ [([100, 105, 103, 101, 115, 116], 8)] := by
    unfold secP
    rw [show m.p.bs.length = m.bs.length from List.length_map _]
    simp only [List.append_assoc]
    rfl
  rw [← hsec] at M
  have hO := M.o
  rw [← accS_len (secP m.p) 0] at hO
  obtain ⟨A, c3, he3, hcs, _⟩ := hO.slice
  refine sA [] rfl ?_
  exact ret2 (.inr rfl) rfl rfl rfl ⟨A, c3, by rw [he3]; rfl, hcs, hF.tr M.fr⟩
end Go.Wk.YtdelgnflcfhhkaaGreatDoor
