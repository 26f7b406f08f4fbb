/-
  Chapter 17: Sections: the walk.
-/
import Derived.Test.YtdelgnflcfhhkaaGreatDoorFsA
set_option linter.unusedVariables false
set_option linter.unusedSimpArgs false
namespace Go.Wk.YtdelgnflcfhhkaaGreatDoor
open Go Go.Wk Go.Proofs

theorem frsR_at (b : Bk Rw) (q o : Nat) : ∀ k (h : k < 9), ∃ j, [ptA q (o + 0), ptA q (o + 1), ptA q (o + 2), ptA q (o + 3), ptA q (o + 4), ptA q (o + 5), ptA q (o + 11 + 0), ptA q (o + 11 + 1), ptA q (o + 11 + 2)][k]? = some (ptA q (o + j)) ∧ (bkC b)[j]? = some ((b.frs.getD k zB).v) := fun k h => by
  match k, h with
  | 0, _ => exact ⟨0, rfl, rfl⟩
  | 1, _ => exact ⟨1, rfl, rfl⟩
  | 2, _ => exact ⟨2, rfl, rfl⟩
  | 3, _ => exact ⟨3, rfl, rfl⟩
  | 4, _ => exact ⟨4, rfl, rfl⟩
  | 5, _ => exact ⟨5, rfl, rfl⟩
  | 6, _ => exact ⟨11, rfl, rfl⟩
  | 7, _ => exact ⟨12, rfl, rfl⟩
  | 8, _ => exact ⟨13, rfl, rfl⟩
  | k + 9, h => exact absurd h (by omega)
theorem frs_xs (b : Bk Rw) (k : Nat) : ((pBk b).frs.getD k []).length = (b.frs.getD k zB).xs.length := by
  match k with
  | 0 => rfl
  | 1 => rfl
  | 2 => rfl
  | 3 => rfl
  | 4 => rfl
  | 5 => rfl
  | 6 => rfl
  | 7 => rfl
  | 8 => rfl
  | k + 9 => rfl
theorem txtS_take {l : List (List UInt8)} {k : Nat} (h : k < l.length) : txtS (l.take (k + 1)) = txtS (l.take k) + (1 + l[k].length) := by
  unfold txtS
  rw [List.take_succ_eq_append_getElem h, List.map_append, List.sum_append]
  simp
theorem txtS_le : ∀ {l : List (List UInt8)}, (∀ t ∈ l, t.length ≤ 64) → txtS l ≤ 65 * l.length
  | [], _ => Nat.le_refl _
  | t :: l, h => by
    have ih := txtS_le (l := l) fun x hx => h x (List.mem_cons_of_mem _ hx)
    have := h t List.mem_cons_self
    have e : txtS (t :: l) = (1 + t.length) + txtS l := by unfold txtS; rw [List.map_cons, List.sum_cons]
    rw [e, List.length_cons]; omega
def rowsP (i : Nat) (b : Bk (List Int8)) (k : Nat) : Prs := (List.range k).map fun k => (headN i ++ rowN.getD k [], (b.frs.getD k []).length)
theorem rowsP_succ (i : Nat) (b : Bk (List Int8)) (k : Nat) : rowsP i b (k + 1) = rowsP i b k ++ [(headN i ++ rowN.getD k [], (b.frs.getD k []).length)] := by
  unfold rowsP; rw [List.range_succ, List.map_append]; rfl
theorem rowsP_len (i : Nat) (b : Bk (List Int8)) (k : Nat) : (rowsP i b k).length = k := by unfold rowsP; rw [List.length_map, List.length_range]
theorem blksP_succ (bs : List (Bk (List Int8))) {n : Nat} (h : n < bs.length) : blksP bs (n + 1) = blksP bs n ++ blkP n bs[n] := by
  unfold blksP
  rw [List.range_succ, List.flatMap_append]
  simp [List.getElem?_eq_getElem h]
theorem blksP_len (bs : List (Bk (List Int8))) : ∀ n, (blksP bs n).length = 10 * n
  | 0 => rfl
  | n + 1 => by
    have ih := blksP_len bs n
    unfold blksP at ih ⊢
    rw [List.range_succ, List.flatMap_append, List.length_append, ih]
    simp [blkP]
    omega
theorem shp_atM {w : World} {p : Nat} {m : LM} {T : TypeId} (h : Blk w p (lmC m) T) : Cs w (some ⟨p, 0 + 0, none⟩) (shpC m.s) := (Cs.of_blk h).part 0 fun j u hj => by
  match j, hj with
  | 0, h => exact h
  | 1, h => exact h
  | 2, h => exact h
  | 3, h => exact h
  | 4, h => exact h
  | 5, h => exact h
  | n + 6, h => simp at h
set_option maxHeartbeats 32000000 in
set_option maxRecDepth 10000 in
theorem wSections (s : List UInt8) (w : World) (hs : s.length ≤ 140737488351240) :
    CallsF Tryz.prog 5 [.string (sOf s)] w fun r w' => ∃ A c, r = .tuple #[.slice A (sectA s).1.length c, i64 (sectA s).2] ∧ Cs w' A ((sectA s).1.flatMap secC) ∧ Fr no w w' := by
  have hsq := decA_smq s
  have hinv := @decA_inv s
  unfold sectA
  refine callsF Tryz.func5 rfl rfl (by decide) rfl ?_
  refine sA [] rfl ?_
  refine ev_call rfl rfl rfl (wDecode s w hs) ?_
  rintro r w1 ⟨m, rfl, hmp, hO⟩
  obtain ⟨⟨Y, e⟩, hY⟩ : ∃ z, z = decA s := ⟨_, rfl⟩
  rw [← hY] at hsq hmp hinv ⊢
  have hmp : m.p = Y := hmp
  refine sA [] rfl ?_
  refine ev_alloc rfl rfl inf47 (fun p4 w2 hp4 k4 f2 => ?_)
  refine ev_storeAgg tabOk rfl rfl rfl rfl rfl rfl k4 rfl (fun w3 k43 f3 => ?_)
  have h13 : Fr no w1 w3 := f2.trans f3 fun z hz e => by have : z = p4 := e; omega
  have k4i : Blk w3 p4 (lmC m) 47 := k43
  have hmi := hO.At.fr0 h13
  have hF := hO.fr.tr h13
  clear k4 k43
  refine sC [] rfl ?_; refine sC [] rfl ?_
  refine ev_condD rfl (fun c => ?_) (fun c => ?_)
  · have he : ¬ e = 0 := by simpa using c
    rw [if_neg (show ¬ (Y, e).2 = 0 from he)]
    refine sA [] rfl ?_
    exact ret2 (.inr rfl) rfl rfl rfl ⟨none, 0, rfl, Cs.nil _ _, hF⟩
  have he : e = 0 := by simpa using c
  obtain ⟨m0, hm0, hval, _, _⟩ := hinv he
  obtain rfl : Y = m0 := congrArg Prod.fst hm0
  have hVM := vm_of hval
  rw [if_pos (show (Y, e).2 = 0 from he)]
  show H _ _ (fun e w' => ∃ v, e = .returned v ∧ ∃ A c, v = .tuple #[.slice A (secQ Y).length c, i64 0] ∧ Cs w' A ((secQ Y).flatMap secC) ∧ Fr no w w') _ _ _ _ _
  have hsq : SmQ Y := hsq
  rw [← hmp] at hsq hVM ⊢
  obtain ⟨d1, d2⟩ : (2 : Int) ≤ m.s.dim ∧ m.s.dim ≤ 64 := hVM.s.2.2.1
  obtain ⟨h1, h2⟩ : (1 : Int) ≤ m.s.hid ∧ m.s.hid ≤ 256 := hVM.s.2.2.2.2.2.2.2
  have htl : ∀ t ∈ m.V.texts, t.length ≤ 64 := hsq.tl
  have htn : m.V.texts.length ≤ 512 := hsq.tx
  have hmn : m.V.merges.length ≤ 1024 := hsq.mg
  have hbn : m.bs.length ≤ 8 := by have := hsq.bs; rwa [show m.p.bs.length = m.bs.length from List.length_map _] at this
  obtain ⟨r1, r2, r3, r4, r5, r6⟩ := hsq.rw
  have r1 : m.e.xs.length ≤ 100000 := r1
  have r2 : m.cos.xs.length ≤ 100000 := r2
  have r3 : m.sin.xs.length ≤ 100000 := r3
  have r4 : m.bend.xs.length ≤ 100000 := r4
  have r5 : m.gain.xs.length ≤ 100000 := r5
  have r6 : m.un.xs.length ≤ 100000 := r6
  have hts := txtS_le htl
  clear c
  refine sA [] rfl ?_
  refine ev_alloc rfl rfl inf22 (fun pO w4 hpO kO f4 => ?_)
  refine sA [] rfl ?_
  refine ev_alloc rfl rfl inf3 (fun pA w5 hpA kA f5 => ?_)
  have hO5 := Blk.fr0 kO f5
  have lO : pO < w4.heap.size := Blk.lt kO
  skip
  refine ev_store tabOk rfl rfl rfl rfl rfl rfl kA rfl (fun w6 kA6 f6 => ?_)
  have hne : pO ≠ pA := fun e => by omega
  have s4 := f4.size
  have M : PS w3 w6 pO pA nilS [] := ⟨hO5.fr f6 hne, Own.nil _ _ _, (fun g hg => by cases hg), kA6, ⟨hpO, by omega⟩, (f4.tr f5).trans f6 fun z hz e => by have : z = pA := e; omega, Nat.zero_le _⟩
  clear kO kA kA6 hO5
  refine sA [] rfl ?_
  refine ev_y rfl rfl (v := .func (.func 15) #[] #[ptA pO 0, ptA pA 0]) (fun a hA w' e => by
    simp only [execOp, hA.ev (show ev _ (.tmp 6) = some _ from rfl), hA.ev (show ev _ (.tmp 7) = some _ from rfl), List.map_toArray, List.map_cons, List.map_nil]; rfl) ?_
  have k4 := k4i.fr0 M.fr
  have hm := hmi.fr0 M.fr
  refine sA [] rfl ?_; refine ev_loadB rfl rfl tabOk rfl rfl ‹_› (by rfl) ?_; refine sA [] rfl ?_
  refine ev_loop (α := Nat) (fun k => [(4, ptA p4 0), (8, .func (.func 15) #[] #[ptA pO 0, ptA pA 0]), (6, ptA pO 0), (9, i64 (txtS (m.V.texts.take k))), (31, .slice m.tA m.V.texts.length m.tc), (32, i64 m.V.texts.length), (33, i64 k)])
    (fun k w' => k ≤ m.V.texts.length ∧ w6 = w') (fun k => m.V.texts.length - k) 0 ⟨rfl, rfl, rfl, rfl, rfl, rfl, rfl, trivial⟩ ⟨Nat.zero_le _, rfl⟩ ?_
  rintro k w7 ⟨hk, rfl⟩
  refine sC [] rfl ?_; refine sD [] rfl ?_
  refine ev_condD rfl (fun c => ?_) (fun c => ?_)
  · have hkl : k < m.V.texts.length := by omega
    have htk := txtS_take hkl
    have h1 := htl m.V.texts[k] (List.getElem_mem hkl)
    have h2 : txtS (m.V.texts.take k) ≤ 65 * 512 := by
      have := txtS_le (l := m.V.texts.take k) fun t ht => htl t (List.mem_of_mem_take ht)
      have := List.length_take (i := k) (l := m.V.texts)
      omega
    obtain ⟨g, ob, hA, hc⟩ := hm.voc.1 k (sv m.V.texts[k]) (by rw [List.getElem?_map, List.getElem?_eq_getElem hkl]; rfl)
    have hc : w6.cell? ⟨g, ob + (k : Int).toNat * 1, none⟩ = some (sv m.V.texts[k]) := by rw [show (k : Int).toNat * 1 = k by omega]; exact hc
    refine sA [] rfl ?_
    refine ev_indexAddr rfl rfl tabOk (congrArg (fun z => some (Value.slice z m.V.texts.length m.tc)) hA) rfl rfl (by omega) (by omega) ?_
    refine ev_load rfl rfl tabOk rfl rfl ‹_› ?_; refine sA [] rfl ?_; refine ev_arith rfl rfl rfl rfl rfl (by simp only [lowK, hiK]; omega) ?_; refine ev_arith rfl rfl rfl rfl rfl (by simp only [lowK, hiK]; omega) ?_; refine sA [] rfl ?_; refine ev_arith rfl rfl rfl rfl rfl (by simp only [lowK, hiK]; omega) ?_; refine sA [] rfl ?_
    refine ev_next (k + 1) (by omega) ⟨by omega, rfl⟩ ⟨rfl, rfl, rfl, ?_, rfl, rfl, by show _ = some (i64 ((k + 1 : Nat) : Int)); rw [show ((k + 1 : Nat) : Int) = (k : Int) + 1 by omega]; rfl, trivial⟩
    show _ = some (i64 ((txtS (m.V.texts.take (k + 1)) : Nat) : Int))
    rw [htk, show ((txtS (m.V.texts.take k) + (1 + m.V.texts[k].length) : Nat) : Int) = (txtS (m.V.texts.take k) : Int) + (1 + (m.V.texts[k].length : Int)) by omega]
    rfl
  have hkn : k = m.V.texts.length := by omega
  subst hkn
  rw [List.take_length]
  clear c hk

  refine sA [] rfl ?_
  refine ev_callV rfl (fun t h => by cases h; rfl) rfl rfl (wAddS w3 _ pO pA nilS _ [109, 97, 103, 105, 99] (8) M (by simp) (by omega)) ?_
  rintro r wa0 ⟨⟨v0, M0⟩, g0⟩
  have M := M0
  clear M0 k4
  have k4 := k4i.fr0 M.fr
  refine sA [] rfl ?_
  refine ev_callV rfl (fun t h => by cases h; rfl) rfl rfl (wAddS w3 _ pO pA v0 _ [115, 104, 97, 112, 101] (12) M (by simp) (by omega)) ?_
  rintro r wa1 ⟨⟨v1, M1⟩, g1⟩
  have M := M1
  clear M1 k4
  have k4 := k4i.fr0 M.fr
  refine sA [] rfl ?_
  refine ev_callV rfl (fun t h => by cases h; rfl) rfl rfl (wAddS w3 _ pO pA v1 _ [115, 104, 105, 102, 116, 115] (2) M (by simp) (by omega)) ?_
  rintro r wa2 ⟨⟨v2, M2⟩, g2⟩
  have M := M2
  clear M2 k4
  have k4 := k4i.fr0 M.fr
  refine sA [] rfl ?_
  refine ev_callV rfl (fun t h => by cases h; rfl) rfl rfl (wAddS w3 _ pO pA v2 _ [116, 101, 120, 116, 115] (txtS m.V.texts) M (by simp) (by omega)) ?_
  rintro r wa3 ⟨⟨v3, M3⟩, g3⟩
  have M := M3
  clear M3 k4
  have k4 := k4i.fr0 M.fr
  refine sA [] rfl ?_; refine ev_loadB rfl rfl tabOk rfl rfl ‹_› (by rfl) ?_; refine sA [] rfl ?_; refine ev_arith rfl rfl rfl rfl rfl (by simp only [lowK, hiK]; omega) ?_; refine ev_arith rfl rfl rfl rfl rfl (by simp only [lowK, hiK]; omega) ?_
  rw [show (2 : Int) + 6 * (m.V.merges.length : Int) = ((2 + 6 * m.V.merges.length : Nat) : Int) by omega]
  refine ev_callV rfl (fun t h => by cases h; rfl) rfl rfl (wAddS w3 _ pO pA v3 _ [109, 101, 114, 103, 101, 115] (2 + 6 * m.V.merges.length) M (by simp) (by omega)) ?_
  rintro r wa4 ⟨⟨v4, M4⟩, g4⟩
  have M := M4
  clear M4 k4
  have k4 := k4i.fr0 M.fr
  refine sA [] rfl ?_; refine ev_loadB rfl rfl tabOk rfl rfl ‹_› (by rfl) ?_; refine sA [] rfl ?_
  refine ev_callV rfl (fun t h => by cases h; rfl) rfl rfl (wAddS w3 _ pO pA v4 _ [101, 109, 98, 101, 100] (m.e.xs.length) M (by simp) (by omega)) ?_
  rintro r wa5 ⟨⟨v5, M5⟩, g5⟩
  have M := M5
  clear M5 k4
  have k4 := k4i.fr0 M.fr
  refine sA [] rfl ?_; refine ev_loadB rfl rfl tabOk rfl rfl ‹_› (by rfl) ?_; refine sA [] rfl ?_
  refine ev_callV rfl (fun t h => by cases h; rfl) rfl rfl (wAddS w3 _ pO pA v5 _ [99, 111, 115] (m.cos.xs.length) M (by simp) (by omega)) ?_
  rintro r wa6 ⟨⟨v6, M6⟩, g6⟩
  have M := M6
  clear M6 k4
  have k4 := k4i.fr0 M.fr
  refine sA [] rfl ?_; refine ev_loadB rfl rfl tabOk rfl rfl ‹_› (by rfl) ?_; refine sA [] rfl ?_
  refine ev_callV rfl (fun t h => by cases h; rfl) rfl rfl (wAddS w3 _ pO pA v6 _ [115, 105, 110] (m.sin.xs.length) M (by simp) (by omega)) ?_
  rintro r wa7 ⟨⟨v7, M7⟩, g7⟩
  have M := M7
  clear M7 k4
  have k4 := k4i.fr0 M.fr
  obtain ⟨v, hv⟩ : ∃ v, v = v7 := ⟨_, rfl⟩
  rw [← hv] at M
  have M : PS w3 _ pO pA v (headP m.p ++ blksP m.p.bs 0) := M
  have hhl : (headP m.p).length = 8 := rfl
  refine sA [] rfl ?_
  refine ev_buildSlice tabOk rfl rfl rfl inf9 rfl rfl rfl (fun v hv => by simp at hv; rcases hv with rfl | rfl | rfl | rfl | rfl | rfl | rfl | rfl | rfl <;> rfl) rfl (fun qn wn hqn kn fn => ?_)
  have kn : Blk wn qn (rowN.map sv) 9 := kn
  have M := M.fr0 fn
  clear k4
  have k4 := k4i.fr0 M.fr
  refine sA [] rfl ?_; refine ev_loadB rfl rfl tabOk rfl rfl ‹_› (by rfl) ?_; refine sA [] rfl ?_
  refine ev_loop (α := Nat × Value) (fun z => [(4, ptA p4 0), (6, ptA pO 0), (8, .func (.func 15) #[] #[ptA pO 0, ptA pA 0]), (12, .slice (some ⟨qn, 0, none⟩) 9 9), (78, i64 m.bs.length), (79, i64 z.1)])
    (fun z w' => z.1 ≤ m.bs.length ∧ PS w3 w' pO pA z.2 (headP m.p ++ blksP m.p.bs z.1) ∧ Blk w' qn (rowN.map sv) 9) (fun z => m.bs.length - z.1) (0, v) ⟨rfl, rfl, rfl, rfl, rfl, rfl, trivial⟩ ⟨Nat.zero_le _, M, kn⟩ ?_
  clear M kn k4 hv
  rintro ⟨i, v⟩ wl ⟨hi, M, kn⟩
  have hi : i ≤ m.bs.length := hi
  simp only at M
  have k4 := k4i.fr0 M.fr
  refine sC [] rfl ?_; refine sD [] rfl ?_
  refine ev_condD rfl (fun c => ?_) (fun c => ?_)
  · have hil : i < m.bs.length := by have c : (i : Int) < m.bs.length := c; omega
    have hm := hmi.fr0 M.fr
    obtain ⟨gb, ob, hbA, hbc3⟩ := blk_at hmi.blk hil
    have hbc := hbc3.fr0 M.fr
    have hilp : i < m.p.bs.length := by rw [show m.p.bs.length = m.bs.length from List.length_map _]; exact hil
    have hbl := blksP_len m.p.bs i
    have hsu := blksP_succ m.p.bs hilp
    have hpb : m.p.bs[i] = pBk m.bs[i] := by simp [LM.p]
    have hbr := hsq.br (pBk m.bs[i]) (List.mem_map_of_mem (List.getElem_mem hil))
    rw [hpb] at hsu
    have hbA2 := hm.bs m.bs[i] (List.getElem_mem hil)
    obtain ⟨b, hb⟩ : ∃ b, b = m.bs[i] := ⟨_, rfl⟩
    rw [← hb] at hbc hbc3 hsu hbr hbA2
    have hbfr : ∀ k, (b.frs.getD k zB).xs.length ≤ 100000 := fun k => by
      have h := frs_xs b k
      by_cases hk : k < 9
      · have hk2 : k < (pBk b).frs.length := hk
        have := hbr ((pBk b).frs.getD k []) (by rw [List.getD_eq_getElem?_getD, List.getElem?_eq_getElem hk2]; exact List.getElem_mem hk2)
        omega
      · rw [List.getD_eq_getElem?_getD, List.getElem?_eq_none (by show 9 ≤ k; omega)]; exact Nat.zero_le _
    refine sA [] rfl ?_; refine ev_loadB rfl rfl tabOk rfl rfl ‹_› (by rfl) ?_; refine sA [] rfl ?_
    refine ev_indexAddr rfl rfl tabOk (congrArg (fun z => some (Value.slice z m.bs.length m.bc)) hbA) rfl rfl (by omega) (by omega) ?_
    refine sA [] rfl ?_
    refine ev_call rfl rfl rfl (wItoa i wl (by omega)) ?_
    rintro r w8 ⟨rfl, rfl⟩
    skip
    refine ev_concat rfl rfl rfl rfl (by simp) ?_
    skip
    refine ev_concat rfl rfl rfl rfl (by simp) ?_
    rw [show [98, 108, 111, 99, 107, 32] ++ [UInt8.ofNat (48 + i)] ++ [46] = headN i from rfl]
    have hhn : (headN i).length = 8 := rfl
    refine sA [] rfl ?_
    refine ev_concat rfl rfl rfl rfl (by simp [hhn]) ?_
    refine sA [] rfl ?_
    refine ev_call rfl rfl rfl (fShifts gb (ob + (i : Int).toNat * 17) w8) ?_
    rintro r w9 ⟨b1, rfl, hb1, kb1, f9⟩
    have M := M.fr0 f9
    have kn := kn.fr0 f9
    refine sA [] rfl ?_
    refine ev_callV rfl (fun t h => by cases h; rfl) rfl rfl (wAddS w3 _ pO pA v _ (headN i ++ SHIFTS) (8) M (by rw [List.length_append, hbl]; omega) (by omega)) ?_
    rintro r w10 ⟨⟨v1, M1⟩, g1⟩
    have kn := M.keep g1 kn (by decide) (by decide) (by decide)
    have M := M1
    clear M1 k4
    have k4 := k4i.fr0 M.fr
    refine sA [] rfl ?_
    refine ev_loadAgg rfl rfl tabOk rfl rfl rfl (shp_atM k4) ?_
    refine sA [] rfl ?_
    refine ev_call rfl rfl rfl (fLists m.s gb (ob + (i : Int).toNat * 17) w10 (by omega) (by omega)) ?_
    rintro r w11 ⟨b3, c3, rfl, hb3, hc3, kb3, kc3, e3⟩
    have M := M.fr0 e3
    have kn := kn.fr0 e3
    clear k4 kc3
    have k4 := k4i.fr0 M.fr
    refine sA [] rfl ?_
    refine ev_loop (α := Nat × Value) (fun z => [(4, ptA p4 0), (6, ptA pO 0), (8, .func (.func 15) #[] #[ptA pO 0, ptA pA 0]), (12, .slice (some ⟨qn, 0, none⟩) 9 9), (15, .string (sOf (headN i))), (78, i64 m.bs.length), (79, i64 i), (104, .slice (some ⟨b3, 0, none⟩) 9 9), (105, i64 9), (106, i64 z.1)])
      (fun z w' => z.1 ≤ 9 ∧ PS w3 w' pO pA z.2 (headP m.p ++ blksP m.p.bs i ++ ([(headN i ++ SHIFTS, 8)] ++ rowsP i (pBk b) z.1)) ∧ Blk w' qn (rowN.map sv) 9 ∧ Blk w' b3 [ptA gb (ob + (i : Int).toNat * 17 + 0), ptA gb (ob + (i : Int).toNat * 17 + 1), ptA gb (ob + (i : Int).toNat * 17 + 2), ptA gb (ob + (i : Int).toNat * 17 + 3), ptA gb (ob + (i : Int).toNat * 17 + 4), ptA gb (ob + (i : Int).toNat * 17 + 5), ptA gb (ob + (i : Int).toNat * 17 + 11 + 0), ptA gb (ob + (i : Int).toNat * 17 + 11 + 1), ptA gb (ob + (i : Int).toNat * 17 + 11 + 2)] 81) (fun z => 9 - z.1) (0, v1) ⟨rfl, rfl, rfl, rfl, rfl, rfl, rfl, rfl, rfl, rfl, trivial⟩ ⟨Nat.zero_le _, M, kn, kb3⟩ ?_
    clear M kn kb3 k4
    rintro ⟨k, v⟩ wk ⟨hk, M, kn, kb3⟩
    have hk : k ≤ 9 := hk
    simp only at M
    have k4 := k4i.fr0 M.fr
    refine sC [] rfl ?_; refine sD [] rfl ?_
    refine ev_condD rfl (fun c2 => ?_) (fun c2 => ?_)
    · have hk9 : k < 9 := by have c2 : (k : Int) < 9 := c2; omega
      obtain ⟨j, hj1, hj2⟩ := frsR_at b gb (ob + (i : Int).toNat * 17) k hk9
      obtain ⟨r0, hr0⟩ : ∃ r0, r0 = b.frs.getD k zB := ⟨_, rfl⟩
      have hr0l := hbfr k
      have hfx := frs_xs b k
      rw [← hr0] at hj2 hr0l hfx
      obtain ⟨nm, hnm⟩ : ∃ nm, nm = rowN.getD k [] := ⟨_, rfl⟩
      have hnl : nm.length ≤ 100 := by
        rw [hnm]
        match k, hk9 with
        | 0, _ => decide
        | 1, _ => decide
        | 2, _ => decide
        | 3, _ => decide
        | 4, _ => decide
        | 5, _ => decide
        | 6, _ => decide
        | 7, _ => decide
        | 8, _ => decide
        | k + 9, h => exact absurd h (by omega)
      have hcn : (rowN.map sv)[k]? = some (sv nm) := by
        have h : k < rowN.length := hk9
        rw [hnm, List.getElem?_map, List.getElem?_eq_getElem h, List.getD_eq_getElem?_getD, List.getElem?_eq_getElem h]; rfl
      have hof : 0 + (k : Int).toNat * 1 = k := by omega
      have hrow3 := hbc3.at hj2
      have hcb : wk.cell? ⟨b3, 0 + (k : Int).toNat * 1, none⟩ = some (ptA gb (ob + (i : Int).toNat * 17 + j)) := kb3.cell (by rw [nthV_eq, hof]; exact hj1)
      have hlen : (headP m.p ++ blksP m.p.bs i ++ ([(headN i ++ SHIFTS, 8)] ++ rowsP i (pBk b) k)).length ≤ 1000000 := by
        simp only [List.length_append, hbl, hhl, rowsP_len, List.length_singleton]; omega
      refine sA [] rfl ?_
      refine ev_indexAddr rfl rfl tabOk rfl rfl rfl (by omega) (by omega) ?_
      refine ev_load rfl rfl tabOk rfl rfl ‹_› ?_; refine sA [] rfl ?_
      refine mixC_in (fun w' => Fr no w3 w' ∧ Blk w' qn (rowN.map sv) 9) mixed (fun u g0 => ?_)
      have M := M.fr0 g0
      have kn := kn.fr0 g0
      have kb3 := kb3.fr0 g0
      refine mA rfl (by kernel_rfl) (by kernel_rfl) ?_
      refine m_indexAddr 4 rfl rfl rfl (by kernel_rfl) (by kernel_rfl) rfl rfl tabOk rfl rfl rfl (by omega) (by omega) ?_
      refine m_load 5 rfl rfl rfl (by kernel_rfl) (by kernel_rfl) rfl rfl tabOk rfl rfl (fun w' h => h.2.cell (by rw [nthV_eq, hof]; exact hcn)) ?_
      refine m_concat 6 rfl rfl rfl (by kernel_rfl) (by kernel_rfl) rfl rfl rfl rfl (by rw [hhn]; omega) ?_
      refine m_load 9 rfl rfl rfl (by kernel_rfl) (by kernel_rfl) rfl rfl tabOk rfl rfl (fun w' h => cell_fr hrow3 h.1 id) ?_
      refine mA rfl (by kernel_rfl) (by kernel_rfl) ?_
      refine mix1 rfl rfl ?_ ⟨M.fr, kn⟩
      refine ev_callV rfl (fun t h => by cases h; rfl) rfl rfl (wAddS w3 _ pO pA v _ (headN i ++ nm) (r0.xs.length) M hlen (by omega)) ?_
      rintro r u6 ⟨⟨v', M1⟩, gg⟩
      have kn := M.keep gg kn (by decide) (by decide) (by decide)
      have kb3 := M.keep gg kb3 (by decide) (by decide) (by decide)
      refine mix_op ?_
      refine mix_out rfl ?_ ⟨M1.fr, kn⟩
      refine sA [] rfl ?_; refine ev_arith rfl rfl rfl rfl rfl (by simp only [lowK, hiK]; omega) ?_; refine sA [] rfl ?_
      refine ev_next (k + 1, v') (by show 9 - (k + 1) < 9 - k; omega) ⟨by show k + 1 ≤ 9; omega, ?_, kn, kb3⟩ ⟨rfl, rfl, rfl, rfl, rfl, rfl, rfl, rfl, rfl, by show _ = some (i64 ((k + 1 : Nat) : Int)); rw [show ((k + 1 : Nat) : Int) = (k : Int) + 1 by omega]; rfl, trivial⟩
      show PS w3 u6 pO pA v' (headP m.p ++ blksP m.p.bs i ++ ([(headN i ++ SHIFTS, 8)] ++ rowsP i (pBk b) (k + 1)))
      rw [rowsP_succ, hfx, ← hnm, ← List.append_assoc [(headN i ++ SHIFTS, 8)], ← List.append_assoc (headP m.p ++ blksP m.p.bs i)]
      exact M1
    have hk9 : k = 9 := by have c2 : ¬ (k : Int) < 9 := c2; omega
    subst hk9
    rw [show [(headN i ++ SHIFTS, 8)] ++ rowsP i (pBk b) 9 = blkP i (pBk b) from rfl, List.append_assoc, ← hsu] at M
    refine sA [] rfl ?_; refine ev_arith rfl rfl rfl rfl rfl (by simp only [lowK, hiK]; omega) ?_; refine sA [] rfl ?_
    exact ev_next (i + 1, v) (by show m.bs.length - (i + 1) < m.bs.length - i; omega) ⟨by show i + 1 ≤ _; omega, M, kn⟩ ⟨rfl, rfl, rfl, rfl, rfl, by show _ = some (i64 ((i + 1 : Nat) : Int)); rw [show ((i + 1 : Nat) : Int) = (i : Int) + 1 by omega]; rfl, trivial⟩
  have hin : i = m.bs.length := by have c : ¬ (i : Int) < m.bs.length := c; omega
  have hbl := blksP_len m.p.bs i
  refine sA [] rfl ?_; refine ev_loadB rfl rfl tabOk rfl rfl ‹_› (by rfl) ?_; refine sA [] rfl ?_
  refine ev_callV rfl (fun t h => by cases h; rfl) rfl rfl (wAddS w3 _ pO pA v _ [98, 101, 110, 100] (m.bend.xs.length) M (by simp only [List.length_append, hbl, hhl, List.length_singleton]; omega) (by omega)) ?_
  rintro r wa8 ⟨⟨v8, M8⟩, g8⟩
  have M := M8
  clear M8 k4
  have k4 := k4i.fr0 M.fr
  refine sA [] rfl ?_; refine ev_loadB rfl rfl tabOk rfl rfl ‹_› (by rfl) ?_; refine sA [] rfl ?_
  refine ev_callV rfl (fun t h => by cases h; rfl) rfl rfl (wAddS w3 _ pO pA v8 _ [103, 97, 105, 110] (m.gain.xs.length) M (by simp only [List.length_append, hbl, hhl, List.length_singleton]; omega) (by omega)) ?_
  rintro r wa9 ⟨⟨v9, M9⟩, g9⟩
  have M := M9
  clear M9 k4
  have k4 := k4i.fr0 M.fr
  refine sA [] rfl ?_; refine ev_loadB rfl rfl tabOk rfl rfl ‹_› (by rfl) ?_; refine sA [] rfl ?_
  refine ev_callV rfl (fun t h => by cases h; rfl) rfl rfl (wAddS w3 _ pO pA v9 _ [117, 110, 101, 109, 98, 101, 100] (m.un.xs.length) M (by simp only [List.length_append, hbl, hhl, List.length_singleton]; omega) (by omega)) ?_
  rintro r wa10 ⟨⟨v10, M10⟩, g10⟩
  have M := M10
  clear M10 k4
  have k4 := k4i.fr0 M.fr
  refine sA [] rfl ?_
  refine ev_callV rfl (fun t h => by cases h; rfl) rfl rfl (wAddS w3 _ pO pA v10 _ [100, 105, 103, 101, 115, 116] (8) M (by simp only [List.length_append, hbl, hhl, List.length_singleton]; omega) (by omega)) ?_
  rintro r wa11 ⟨⟨v11, M11⟩, g11⟩
  have M := M11
  clear M11 k4
  have k4 := k4i.fr0 M.fr
  rw [hin] at M
  have hsec : secP m.p = headP m.p ++ blksP m.p.bs m.bs.length ++ [([98, 101, 110, 100], m.bend.xs.length)] ++ [([103, 97, 105, 110], m.gain.xs.length)] ++ [([117, 110, 101, 109, 98, 101, 100], m.un.xs.length)] ++ [([100, 105, 103, 101, 115, 116], 8)] := by
    unfold secP
    rw [show m.p.bs.length = m.bs.length from List.length_map _]
    simp only [List.append_assoc]
    rfl
  rw [← hsec] at M
  have hO2 := M.o
  rw [← accS_len (secP m.p) 0] at hO2
  obtain ⟨A, c3, he3, hcs, _⟩ := hO2.slice
  have ko := M.ko
  refine sA [] rfl ?_; refine ev_loadB rfl rfl tabOk rfl rfl ‹_› (by rfl) ?_; refine sA [] rfl ?_
  exact ret2 (.inr rfl) rfl rfl rfl ⟨A, c3, by rw [he3]; rfl, hcs, hF.tr M.fr⟩
end Go.Wk.YtdelgnflcfhhkaaGreatDoor
