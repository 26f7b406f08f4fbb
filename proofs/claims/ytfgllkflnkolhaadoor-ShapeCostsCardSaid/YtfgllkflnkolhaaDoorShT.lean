/-
  Chapter 16: what Sample makes is valid; what every law asks first.
-/
import Derived.Test.YtfgllkflnkolhaaDoorShS
set_option linter.unusedVariables false
namespace Go.Wk.YtfgllkflnkolhaaDoor
open Go Go.Wk Go.Proofs

theorem txts_at {n i : Nat} (h : i < n) : (⟨txts n, mrgs n⟩ : VV).t i = txtF i := by
  unfold VV.t txts
  simp [List.getD_eq_getElem?_getD, List.getElem?_map, List.getElem?_range h]
theorem txtF_inj {i j : Nat} (hi : i < 512) (hj : j < 512) (h : txtF i = txtF j) : i = j := by
  unfold txtF at h
  have e : ∀ a b : Nat, UInt8.ofNat (a % 256) = UInt8.ofNat (b % 256) → a % 256 = b % 256 := fun a b h => by
    have := congrArg UInt8.toNat h
    simpa using this
  split at h <;> split at h <;> first | (simp at h; done) | omega | skip
  all_goals (split at h <;> first | (simp at h; done) | skip)
  all_goals (try split at h)
  all_goals (first | (simp only [List.cons.injEq, and_true, true_and] at h; have := e _ _ h; omega) | (simp at h; done))
theorem mrgs_mem : ∀ (n : Nat) (x : Mrg), x ∈ mrgs n → ∃ i : Nat, i < n ∧ 256 ≤ i ∧ i ≤ 510 ∧ x = (1, (i : Int) - 255, (i : Int))
  | 0, x, h => by simp [mrgs] at h
  | n + 1, x, h => by
    unfold mrgs at h
    rcases List.mem_append.1 h with h | h
    · obtain ⟨i, h1, h2⟩ := mrgs_mem n x h
      exact ⟨i, by omega, h2⟩
    · split at h
      · rename_i c
        simp only [List.mem_cons, List.not_mem_nil, or_false] at h
        exact ⟨n, by omega, c.1, c.2, h⟩
      · cases h
theorem mrgs_eq : ∀ n, mrgs n = (List.range (min n 511 - 256)).map fun j : Nat => ((1 : Int), (j : Int) + 1, (j : Int) + 256)
  | 0 => by simp [mrgs]
  | n + 1 => by
    unfold mrgs
    rw [mrgs_eq n]
    split
    · rename_i h
      rw [show min (n + 1) 511 - 256 = (min n 511 - 256) + 1 by omega, List.range_succ, List.map_append]
      simp only [List.map_cons, List.map_nil]
      rw [show ((min n 511 - 256 : Nat) : Int) + 1 = (n : Int) - 255 by omega, show ((min n 511 - 256 : Nat) : Int) + 256 = (n : Int) by omega]
    · rw [show min (n + 1) 511 - 256 = min n 511 - 256 by omega, List.append_nil]
theorem sample_words {n : Nat} (h1 : 2 ≤ n) (h2 : n ≤ 512) : (⟨txts n, mrgs n⟩ : VV).ok := by
  have hm : ∀ j, j < (mrgs n).length → (⟨txts n, mrgs n⟩ : VV).m j = (1, (j : Int) + 1, (j : Int) + 256) ∧ j < min n 511 - 256 := fun j hj => by
    unfold VV.m
    rw [mrgs_eq] at hj ⊢
    simp at hj
    simp [List.getD_eq_getElem?_getD, List.getElem?_map, List.getElem?_range hj]
    omega
  refine ⟨by simp [txts]; omega, by simp [txts]; omega, Nat.le_trans (mrgs_len n) (by omega), fun k hk => ?_, fun j hj => ?_⟩
  · have hk : k < n := by simpa [txts] using hk
    refine ⟨fun i hi => ?_, ?_, ?_⟩
    · rw [txts_at hk, txts_at (by omega)]
      intro e
      have := txtF_inj (by omega) (by omega) e
      omega
    · rw [txts_at hk]; unfold txtF
      split
      · rename_i h; simp [h]
      · rename_i h; split <;> simp [h]
    · rw [txts_at hk]; unfold txtF
      (repeat' split) <;> simp
  · obtain ⟨e, hj2⟩ := hm j hj
    have htok : ∀ i : Int, 0 < i → i < n → (⟨txts n, mrgs n⟩ : VV).tok i := fun i a b => ⟨a, by simpa [txts] using b⟩
    refine ⟨?_, ?_, ?_, ?_, fun k hk => ?_⟩
    · rw [e]; exact htok 1 (by omega) (by omega)
    · rw [e]; exact htok ((j : Int) + 1) (by omega) (by omega)
    · rw [e]; exact htok ((j : Int) + 256) (by omega) (by omega)
    · rw [e, show ((1, (j : Int) + 1, (j : Int) + 256) : Mrg).2.2.toNat = j + 256 from Int.toNat_natCast (j + 256), show ((1, (j : Int) + 1, (j : Int) + 256) : Mrg).1.toNat = 1 from rfl, show ((1, (j : Int) + 1, (j : Int) + 256) : Mrg).2.1.toNat = j + 1 from Int.toNat_natCast (j + 1),
        txts_at (by omega), txts_at (by omega), txts_at (by omega)]
      unfold txtF
      rw [if_neg (by omega), if_neg (by omega), if_neg (by omega), if_pos (by omega), if_neg (by omega), if_pos (by omega)]
      rw [show 97 + (j + 256) - 256 = 96 + (j + 1) by omega]
      rfl
    · obtain ⟨e2, _⟩ := hm k (Nat.lt_trans hk hj)
      rw [e, e2]
      simp only [ne_eq, Prod.mk.injEq, true_and]
      omega
/-- the last reach is the greatest -/
theorem rN_le (m : Md) (h : 0 ≤ m.es ∧ m.es ≤ 24) (hs : okS m.s) : ∀ y, y ≤ m.bs.length → ∀ x ∈ rN m y, x ≤ lN m y
  | 0, _, x, hx => by
    have e : x = firstQ m := by simpa [rN] using hx
    rw [e]; exact Int.le_refl _
  | y + 1, hy, x, hx => by
    have ih := rN_le m h hs y (by omega)
    obtain ⟨_, _, ⟨d1, d2⟩, _, _, _, _, h1, h2⟩ := hs
    have a := moreQ_bd64 (xs := m.bs[y].o) (n := m.s.dim.toNat) (s := m.bs[y].os.toNat) (by omega) m.s.dim.toNat
    have b := moreQ_bd64 (xs := m.bs[y].dn) (n := m.s.hid.toNat) (s := m.bs[y].dns.toNat) (by omega) m.s.dim.toNat
    rw [lN_succ m hy]
    rw [rN_succ m hy] at hx
    rcases List.mem_append.1 hx with hx | hx
    · have := ih x hx; omega
    · simp only [List.mem_cons, List.not_mem_nil, or_false] at hx
      rcases hx with rfl | rfl <;> omega
theorem lN_grow (m : Md) (hs : okS m.s) : ∀ y, y ≤ m.bs.length → lN m y ≤ firstQ m + 8323074 * (y : Int)
  | 0, _ => by show firstQ m ≤ _; omega
  | y + 1, hy => by
    have ih := lN_grow m hs y (by omega)
    obtain ⟨_, _, ⟨d1, d2⟩, _, _, _, _, h1, h2⟩ := hs
    have a := moreQ_bd64 (xs := m.bs[y].o) (n := m.s.dim.toNat) (s := m.bs[y].os.toNat) (by omega) m.s.dim.toNat
    have b := moreQ_bd64 (xs := m.bs[y].dn) (n := m.s.hid.toNat) (s := m.bs[y].dns.toNat) (by omega) m.s.dim.toNat
    rw [lN_succ m hy]
    omega
theorem far_none {l : List Int} (h : ∀ x ∈ l, x ≤ 268435456) : farQ l = none := by
  unfold farQ
  rw [List.find?_eq_none]
  intro i hi
  have hl := List.mem_range.1 hi
  have := h (l.getD i 0) (by rw [List.getD_eq_getElem?_getD, List.getElem?_eq_getElem hl]; simp)
  rw [decide_eq_false (by omega)]; simp
theorem layF_len (d h l st : Nat) : (layF d h l st).length = l := by simp [layF]
theorem layF_mem {d h l st : Nat} {b : Bk (List Int8)} (hb : b ∈ layF d h l st) : ∃ s, b = blkF d h s := by
  unfold layF at hb
  obtain ⟨i, _, rfl⟩ := List.mem_map.1 hb
  exact ⟨_, rfl⟩
theorem blkF_ok (s : Shp) (st : Nat) (h1 : 0 ≤ s.dim) (h2 : 0 ≤ s.hid) : blockQ s (blkF s.dim.toNat s.hid.toNat st) = 0 := by
  have l1 := levQ_le s.dim.toNat
  have l2 := levQ_le s.hid.toNat
  obtain ⟨d, hd⟩ := Int.eq_ofNat_of_zero_le h1
  obtain ⟨h, hh⟩ := Int.eq_ofNat_of_zero_le h2
  unfold blockQ blkF
  rw [if_neg, if_neg, if_neg, if_neg]
  · simp only [shiftQ, List.all_cons, List.all_nil, Bool.and_true, Bool.and_eq_false_iff, decide_eq_false_iff_not]; omega
  · rw [hd, hh]; simp [lenQ, rowQ_len, Int.mul_comm]
  · rw [hd]; simp [lenQ, rowQ_len]
  · rw [hd]; simp [lenQ, gain_len]
theorem sample_all (s : Shp) (seed : Int) (hs : okS s) : allQ (sampleP s seed) = (0, 0, 0) := by
  have hs' := hs
  obtain ⟨⟨a1, a2⟩, ⟨b1, b2⟩, ⟨d1, d2⟩, _, _, _, ⟨e1, e2⟩, f1, f2⟩ := hs
  have hh := half_bd hs'
  have hc : (sampleP s seed).V.chk = (0, 0) := ok_chk (sample_words (n := s.voc.toNat) (by omega) (by omega))
  have hw : wordsQ (sampleP s seed).s (sampleP s seed).V = (0, 0, 0) := by
    unfold wordsQ
    rw [hc, if_pos (show (((0, 0) : Nat × Nat).2 : Int) = 0 from rfl), if_pos]
    show ((txts s.voc.toNat).length : Int) = s.voc
    rw [txts_len]; omega
  unfold allQ
  rw [if_pos (show okS (sampleP s seed).s from hs'), hw, if_pos rfl]
  obtain ⟨n, hn⟩ := Int.eq_ofNat_of_zero_le (show 0 ≤ s.voc by omega)
  obtain ⟨c, hcc⟩ := Int.eq_ofNat_of_zero_le (show 0 ≤ s.ctx by omega)
  obtain ⟨d, hd⟩ := Int.eq_ofNat_of_zero_le (show 0 ≤ s.dim by omega)
  obtain ⟨q, hq⟩ := Int.eq_ofNat_of_zero_le (show 0 ≤ halfS s by omega)
  have ll := levQ_le s.dim.toNat
  unfold partsQ
  rw [if_neg, if_neg, if_neg, if_neg]
  · have hf : (List.range (blkN (sampleP s seed).s (sampleP s seed).bs)).find? (fun i => !decide (blkAt (sampleP s seed).s (sampleP s seed).bs i = 0)) = none := by
      rw [List.find?_eq_none]
      intro i hi
      have hi := List.mem_range.1 hi
      have hl : (sampleP s seed).bs.length = s.lay.toNat := layF_len _ _ _ _
      have hi : i < s.lay.toNat := by
        have : (sampleP s seed).s = s := rfl
        rw [this] at hi; unfold blkN at hi; omega
      have : blkAt (sampleP s seed).s (sampleP s seed).bs i = 0 := by
        unfold blkAt
        rw [List.getElem?_eq_getElem (by omega)]
        simp only
        rw [if_pos (show (i : Int) < (sampleP s seed).s.lay by show (i : Int) < s.lay; omega)]
        have hil : i < (sampleP s seed).bs.length := by omega
        obtain ⟨st, e⟩ := layF_mem (d := s.dim.toNat) (h := s.hid.toNat) (l := s.lay.toNat) (st := lcgN (s.voc.toNat * s.dim.toNat) (seed64 seed)) (b := (sampleP s seed).bs[i]) (List.getElem_mem hil)
        rw [e]; exact blkF_ok s st (by omega) (by omega)
      rw [decide_eq_true this]; simp
    rw [hf, Option.elim_none]
    unfold tailQ
    rw [if_neg, if_neg, if_neg, if_neg]
    · show ¬ shiftQ [4 + (levQ s.dim.toNat : Int)] = false
      simp only [shiftQ, List.all_cons, List.all_nil, Bool.and_true, decide_eq_false_iff_not]; omega
    · show ¬ ¬ ((rowQ (s.voc.toNat * s.dim.toNat) _).length : Int) = s.voc * s.dim
      rw [rowQ_len, hn, hd]; simp
    · show ¬ ¬ ((gainF s.dim.toNat).length : Int) = s.dim
      rw [gain_len]; omega
    · show ¬ ¬ (BEND.length : Int) = 256
      rw [show BEND.length = 256 from bendF_len 256]; simp
  · show ¬ ¬ ((sinF s.ctx.toNat (halfS s).toNat).length : Int) = s.ctx * halfS s
    rw [sinF_len, hcc, hq]; simp
  · show ¬ ¬ ((cosF s.ctx.toNat (halfS s).toNat).length : Int) = s.ctx * halfS s
    rw [cosF_len, hcc, hq]; simp
  · show ¬ ¬ ((0 : Int) ≤ 2 ∧ (2 : Int) ≤ 24)
    omega
  · show ¬ ¬ ((rowQ (s.voc.toNat * s.dim.toNat) _).length : Int) = s.voc * s.dim
    rw [rowQ_len, hn, hd]; simp
theorem sample_valid (s : Shp) (seed : Int) (hs : okS s) : validQ (sampleP s seed) = (0, 0, 0) := by
  unfold validQ
  rw [sample_all s seed hs, if_pos rfl, far_none, Option.elim_none]
  intro x hx
  have hl : (sampleP s seed).bs.length = s.lay.toNat := layF_len _ _ _ _
  rw [← rN_all] at hx
  have h1 := rN_le (sampleP s seed) (show (0 : Int) ≤ 2 ∧ (2 : Int) ≤ 24 by omega) hs _ (Nat.le_refl _) x hx
  have h2 := lN_grow (sampleP s seed) hs _ (Nat.le_refl _)
  have h3 : firstQ (sampleP s seed) ≤ 512 := by
    have := topQ_bd (sampleP s seed).e (sampleP s seed).e.length
    show topQ (sampleP s seed).e (sampleP s seed).e.length * 2 ^ 2 ≤ 512
    omega
  obtain ⟨_, _, _, _, _, _, ⟨e1, e2⟩, _⟩ := hs
  rw [hl] at h1 h2
  omega
theorem own_cap {w : World} {e sz n c m : Nat} {A : Option Addr} {xs : List Value} (h : Own w e sz (.slice A n c) m xs) : n ≤ c := by
  rcases h.2 with ⟨e, _⟩ | ⟨g, cap, cur, e, _, _, h1, _⟩
  · cases e; exact Nat.le_refl _
  · cases e; exact h1
theorem OwnM.cap {TM TB : TypeId} {w0 w : World} {m : LM} (h : OwnM TM TB w0 w m) : m.Cap := fun b hb =>
  have f : ∀ r ∈ b.rows, r.xs.length ≤ r.c := fun r hr => own_cap (h.rows r (List.mem_append.2 (.inl (List.mem_append.2 (.inr (List.mem_flatMap.2 ⟨b, hb, hr⟩)))))).1
  ⟨f _ (by simp), f _ (by simp)⟩
theorem sample_VS {s : Shp} (seed : Int) (hs : okS s) : VS (sampleP s seed).V := by
  obtain ⟨⟨a1, a2⟩, _⟩ := hs
  refine ⟨?_, fun t ht => ?_, ?_⟩
  · show (txts s.voc.toNat).length ≤ _; rw [txts_len]; omega
  · obtain ⟨i, _, rfl⟩ := List.mem_map.1 (show t ∈ (List.range s.voc.toNat).map txtF from ht)
    unfold txtF; (repeat' split) <;> simp
  · show (mrgs s.voc.toNat).length ≤ _
    have := mrgs_len s.voc.toNat; omega
theorem lm_bl {m : LM} {p : Md} (h : m.p = p) : m.bs.length = p.bs.length := by rw [← h]; simp [LM.p]
abbrev OwnS (w w' : World) (m : LM) : Prop := OwnM 114 60 w w' m
/-- Sample's walk, for a shape that is right -/
theorem wSample (s : Shp) (seed : Int) (w : World) (o : okS s) (hseed : -9223372036854775808 ≤ seed ∧ seed ≤ 9223372036854775807) (hT : QT w) :
    CallsF Tryd.prog 20 [shpV s, i64 seed] w fun r w' => ∃ m, r = .tuple #[lmV m, i64 0] ∧ m.p = sampleP s seed ∧ OwnS w w' m := by
  have o' := o
  have hh := half_bd o
  obtain ⟨⟨a1, a2⟩, ⟨b1, b2⟩, ⟨d1, d2⟩, k1, k2, k3, ⟨e1, e2⟩, f1, f2⟩ := o
  obtain ⟨v, c, d, k, l, h⟩ := s
  obtain ⟨v, rfl⟩ := Int.eq_ofNat_of_zero_le (show 0 ≤ v by exact Int.le_trans (by decide) a1)
  obtain ⟨c, rfl⟩ := Int.eq_ofNat_of_zero_le (show 0 ≤ c by exact Int.le_trans (by decide) b1)
  obtain ⟨d, rfl⟩ := Int.eq_ofNat_of_zero_le (show 0 ≤ d by exact Int.le_trans (by decide) d1)
  obtain ⟨k, rfl⟩ := Int.eq_ofNat_of_zero_le (show 0 ≤ k by exact Int.le_trans (by decide) k1)
  obtain ⟨l, rfl⟩ := Int.eq_ofNat_of_zero_le (show 0 ≤ l by exact Int.le_trans (by decide) e1)
  obtain ⟨h, rfl⟩ := Int.eq_ofNat_of_zero_le (show 0 ≤ h by exact Int.le_trans (by decide) f1)
  obtain ⟨hh', ehh⟩ := Int.eq_ofNat_of_zero_le (show 0 ≤ halfS ⟨v, c, d, k, l, h⟩ by omega)
  exact wSampleOk v c d k l h hh' seed w o' ehh hseed hT
theorem tinyOk : okS tinyS := by decide
set_option maxHeartbeats 4000000 in
theorem lAwake (w : World) (hT : QT w) : CallsF Tryd.prog 11 [] w fun r w' => r = .bool true ∧ Fr no w w' := by
  refine callsF Tryd.func11 rfl rfl (by decide) rfl ?_
  refine sA [] rfl ?_
  refine ev_call rfl rfl rfl (lTiny w) ?_
  rintro r w1 ⟨rfl, f1⟩
  skip
  refine ev_call rfl rfl rfl (wSample tinyS 0 w1 tinyOk (by omega) (hT.fr0 f1)) ?_
  rintro r w2 ⟨m, rfl, hmp, hO⟩
  have f2 := hO.fr
  refine sA [] rfl ?_
  refine ev_alloc rfl rfl inf51 (fun p w3 hp kp f3 => ?_)
  skip
  refine ev_storeAgg tabOk rfl rfl rfl rfl rfl rfl kp rfl (fun w4 kp4 f4 => ?_)
  have f14 : Fr no w1 w4 := (f2.tr f3).trans f4 fun z hz e => by have : z = p := e; have := f2.size; omega
  have f24 : Fr no w2 w4 := f3.trans f4 fun z hz e => by have : z = p := e; omega
  have hme : m.e.xs = (sampleP tinyS 0).e := by rw [← hmp]; rfl
  have hmel : m.e.xs.length = 6 := by rw [hme]; exact rowQ_len _ _
  have he0 : m.e.xs[0]'(by omega) = 20 := by
    have : m.e.xs[0]? = some 20 := by rw [hme]; decide +kernel
    rw [List.getElem?_eq_getElem (by omega)] at this
    exact Option.some.inj this
  have hAt := hO.At.fr0 f24
  obtain ⟨g, o, hA, hcell⟩ := hAt.rows m.e (by simp) 0 (i8v (m.e.xs[0]'(by omega))) (by rw [List.getElem?_map, List.getElem?_eq_getElem (by omega)]; rfl)
  rw [he0] at hcell
  refine sA [] rfl ?_; refine ev_loadB rfl rfl tabOk rfl rfl ‹_› (by rfl) ?_; refine sC [] rfl ?_
  rw [show decide (¬ (m.e.xs.length : Int) = 6) = false from decide_eq_false (by omega)]
  refine sA [] rfl ?_; refine ev_loadB rfl rfl tabOk rfl rfl ‹_› (by rfl) ?_
  refine ev_indexAddr rfl rfl tabOk (congrArg (fun z => some (Value.slice z m.e.xs.length m.e.c)) hA) rfl rfl (by omega) (by omega) ?_
  rw [show o + (0 : Int).toNat * 1 = o + 0 from rfl]
  refine ev_load rfl rfl tabOk rfl rfl hcell ?_
  refine sA [] rfl ?_; refine ev_loadAggB rfl rfl tabOk rfl rfl ‹_› (by rfl) ?_
  have hS : VS m.V := by
    have : m.V = (sampleP tinyS 0).V := by rw [← hmp]; rfl
    rw [this]; exact sample_VS 0 tinyOk
  refine ev_call rfl rfl rfl (wValid m w4 hAt hS (by rw [lm_bl hmp]; decide) hO.cap) ?_
  rintro r w5 ⟨rfl, f5⟩
  rw [hmp, sample_valid tinyS 0 tinyOk]
  have f15 := f14.tr f5
  refine sA [] rfl ?_
  refine ev_call rfl rfl rfl (lTiny w5) ?_
  rintro r w6 ⟨rfl, f6⟩
  have f16 := f15.tr f6
  skip
  refine ev_call rfl rfl rfl (wNum tinyS w6) ?_
  rintro r w7 ⟨rfl, f7⟩
  have f17 := f16.tr f7
  rw [show numS tinyS = 310 by decide, show chkS tinyS = 0 from rfl]
  refine sA [] rfl ?_
  refine ev_call rfl rfl rfl (lTiny w7) ?_
  rintro r w8 ⟨rfl, f8⟩
  have f18 := f17.tr f8
  skip
  refine ev_call rfl rfl rfl (wHalf tinyS w8) ?_
  rintro r w9 ⟨rfl, f9⟩
  have f19 := f18.tr f9
  rw [show halfS tinyS = 1 by decide]
  refine sA [] rfl ?_
  exact ret1 (.inr rfl) rfl rfl ⟨rfl, f1.tr f19⟩
end Go.Wk.YtfgllkflnkolhaaDoor
