/-
  Chapter 17: Decode: the walk, to its end.
-/
import Derived.Test.YtdelgnflcfhhkaaGreatDoorFlL
set_option linter.unusedVariables false
namespace Go.Wk.YtdelgnflcfhhkaaGreatDoor
open Go Go.Wk Go.Proofs

theorem RawM.own {wi w w' : World} {m : LM} (h : RawM w w' m) (hf : Fr no wi w') (hs : wi.heap.size ≤ w.heap.size) : OwnS wi w' m := by
  obtain ⟨Q, h1, h2, h3, h4, h5⟩ := h
  exact h1.own h2 h3 h4 h5 hf hs
theorem decT_e {t : List UInt8} (h : endE t (rMod t ⟨0, 0⟩).1 = 0) : SmQ (rMod t ⟨0, 0⟩).2 := by
  refine has_mod t ⟨0, 0⟩ ?_
  unfold endE at h
  split at h
  · assumption
  · exact h
set_option maxHeartbeats 16000000 in
theorem wDecode (s : List UInt8) (w : World) (hs : s.length ≤ 140737488351240) :
    CallsF Tryz.prog 14 [.string (sOf s)] w fun r w' => ∃ m, r = .tuple #[lmV m, i64 (decA s).2] ∧ m.p = (decA s).1 ∧ OwnS w w' m := by
  unfold decA
  refine callsF Tryz.func14 rfl rfl (by decide) rfl ?_
  refine sA [] rfl ?_
  refine ev_alloc rfl rfl inf47 (fun pr w1 hpr kr f1 => ?_)
  have kr : Blk w1 pr (lmC zM) 47 := kr
  have hprw : w.heap.size ≤ pr := hpr
  refine sC [] rfl ?_; refine sC [] rfl ?_; refine sD [] rfl ?_; refine sD [] rfl ?_; refine sD [] rfl ?_
  refine ev_cut (α := Unit) (fun _ => [(0, .string (sOf s)), (2, ptA pr 0)]) (fun _ w' => Fr no w w' ∧ Blk w' pr (lmC zM) 47 ∧ ¬ s.length < 16 ∧ ¬ s.take 8 ≠ MAGIC ∧ ¬ sumB (s.take (s.length - 8)) ≠ s.drop (s.length - 8)) ?_ ?_
  · skip
    refine ev_condD rfl (fun c => ?_) (fun c => ?_)
    · have h1 : s.length < 16 := by omega
      rw [if_pos h1]
      refine sA [] rfl ?_
      refine ev_build rfl rfl (v := lmV zM) rfl (fun w => by kernel_rfl) ?_
      skip
      refine ev_storeAgg tabOk rfl rfl rfl rfl rfl rfl kr rfl (fun w2 k2 f2 => ?_)
      have hF2 : Fr no w w2 := f1.trans f2 fun z hz e => by have : z = pr := e; omega
      refine sA [] rfl ?_
      exact retG tabOk (.inr rfl) rfl [lmV zM, i64 11] ⟨⟨_, rfl, .inl ⟨rfl, _, rfl, rfl, Cs.of_blk k2⟩⟩, rfl, trivial⟩ ⟨zM, rfl, rfl, zM_own hF2⟩
    have h1 : ¬ s.length < 16 := by omega
    rw [if_neg h1]
    refine sA [] rfl ?_
    refine ev_sliceStr (s := s) (i := 0) (j := 8) rfl rfl tabOk rfl rfl rfl rfl (by omega) (by omega) (by omega) ?_
    rw [show (s.take (Int.toNat 8)).drop (Int.toNat 0) = s.take 8 from List.drop_zero]
    refine sD [] rfl ?_; refine sD [] rfl ?_; refine sD [] rfl ?_
    refine ev_condD rfl (fun c2 => ?_) (fun c2 => ?_)
    · have h2 : s.take 8 ≠ MAGIC := c2
      rw [if_pos h2]
      refine sA [] rfl ?_
      refine ev_build rfl rfl (v := lmV zM) rfl (fun w => by kernel_rfl) ?_
      skip
      refine ev_storeAgg tabOk rfl rfl rfl rfl rfl rfl kr rfl (fun w2 k2 f2 => ?_)
      have hF2 : Fr no w w2 := f1.trans f2 fun z hz e => by have : z = pr := e; omega
      refine sA [] rfl ?_
      exact retG tabOk (.inr rfl) rfl [lmV zM, i64 170] ⟨⟨_, rfl, .inl ⟨rfl, _, rfl, rfl, Cs.of_blk k2⟩⟩, rfl, trivial⟩ ⟨zM, rfl, rfl, zM_own hF2⟩
    have h2 : ¬ s.take 8 ≠ MAGIC := c2
    rw [if_neg h2]
    refine sA [] rfl ?_
    refine ev_draw mixed (by kernel_rfl) ?_
    refine qA rfl ?_; refine q_arith rfl rfl rfl rfl rfl (by simp only [lowK, hiK]; omega) ?_
    refine q_sliceStr (s := s) (i := 0) (j := (s.length : Int) - 8) rfl rfl tabOk rfl rfl rfl rfl (by omega) (by omega) (by omega) ?_
    rw [show (s.take ((s.length : Int) - 8).toNat).drop (Int.toNat 0) = s.take (s.length - 8) by rw [show ((s.length : Int) - 8).toNat = s.length - 8 by omega]; rfl]
    skip
    refine q_call rfl rfl rfl (fun w' hw' => (wSum (s.take (s.length - 8)) w' (by rw [List.length_take]; omega)).mono fun u w'' z => ⟨z.1, hw'.tr z.2⟩) ?_
    refine qA rfl ?_; refine q_arith rfl rfl rfl rfl rfl (by simp only [lowK, hiK]; omega) ?_
    refine q_sliceStr (s := s) (i := (s.length : Int) - 8) (j := s.length) rfl rfl tabOk rfl rfl rfl rfl (by omega) (by omega) (by omega) ?_
    rw [show (s.take ((s.length : Int)).toNat).drop ((s.length : Int) - 8).toNat = s.drop (s.length - 8) by rw [show ((s.length : Int) - 8).toNat = s.length - 8 by omega, Int.toNat_natCast, List.take_length]]
    refine qA rfl ?_
    refine q_end fun w2 f2 => ?_
    have kr2 := kr.fr0 f2
    have hF2 := f1.tr f2
    skip
    refine ev_condD rfl (fun c3 => ?_) (fun c3 => ?_)
    · have h3 : sumB (s.take (s.length - 8)) ≠ s.drop (s.length - 8) := c3
      rw [if_pos h3]
      refine sA [] rfl ?_
      refine ev_build rfl rfl (v := lmV zM) rfl (fun w => by kernel_rfl) ?_
      skip
      refine ev_storeAgg tabOk rfl rfl rfl rfl rfl rfl kr2 rfl (fun w3 k3 f3 => ?_)
      have hF3 : Fr no w w3 := hF2.trans f3 fun z hz e => by have : z = pr := e; omega
      refine sA [] rfl ?_
      exact retG tabOk (.inr rfl) rfl [lmV zM, i64 171] ⟨⟨_, rfl, .inl ⟨rfl, _, rfl, rfl, Cs.of_blk k3⟩⟩, rfl, trivial⟩ ⟨zM, rfl, rfl, zM_own hF3⟩
    · refine sA [] rfl ?_
      exact ev_out () ⟨hF2, kr2, h1, h2, c3⟩ ⟨rfl, rfl, trivial⟩
  rintro ⟨⟩ w2 ⟨hF2, kr2, h1, h2, h3⟩
  rw [if_neg h1, if_neg h2, if_neg h3]
  have hml : (midQ s).length ≤ 140737488355232 := by
    unfold midQ cut
    rw [List.length_take, List.length_drop]; omega
  refine sA [] rfl ?_; refine ev_arith rfl rfl rfl rfl rfl (by simp only [lowK, hiK]; omega) ?_
  refine ev_sliceStr (s := s) (i := 8) (j := (s.length : Int) - 8) rfl rfl tabOk rfl rfl rfl rfl (by omega) (by omega) (by omega) ?_
  rw [show (s.take ((s.length : Int) - 8).toNat).drop (Int.toNat 8) = midQ s by rw [show ((s.length : Int) - 8).toNat = s.length - 8 by omega]; exact (mid_take s).symm]
  obtain ⟨t, ht⟩ : ∃ t, t = midQ s := ⟨_, rfl⟩
  rw [← ht] at hml ⊢
  refine ev_call rfl rfl rfl (newReader t w2) ?_
  rintro r w3 ⟨q, rfl, hq, kq, f3⟩
  have kr3 := kr2.fr0 f3
  have hF3 := hF2.tr f3
  skip
  refine ev_build rfl rfl (v := .agg #[.pointer (some ⟨q, 0, none⟩), i64 0]) rfl (fun w => by kernel_rfl) ?_
  refine ev_box rfl rfl rfl fun p w4 hp kp f4 => ?_
  have kp : Blk w4 p [.pointer (some ⟨q, 0, none⟩), i64 0] 144 := kp
  have kr4 := kr3.fr0 f4
  have hF4 := hF3.tr f4
  have hrs : Rs w4 p q t ⟨0, 0⟩ := ⟨kp, kq.fr0 f4, fun e => by have := Blk.lt kq; omega, Nat.zero_le _⟩
  have hpw : w.heap.size ≤ p := Nat.le_trans hF3.size hp
  have hqw : w.heap.size ≤ q := Nat.le_trans hF2.size hq
  have hprp : pr ≠ p := fun e => by have := kr3.lt; omega
  have hprq : pr ≠ q := fun e => by have := kr2.lt; omega
  refine sA [] rfl ?_
  refine ev_call rfl rfl rfl (wModel p q t w4 hrs hml) ?_
  rintro r w5 ⟨m, x, rfl, hR, r5, f5, hxe, hxm⟩
  have kr5 := kr4.fr f5 (fun e => by rcases e with e | e; exact hprp e; exact hprq e)
  have hF5 : Fr no w w5 := hF4.trans f5 fun z hz e => by rcases e with e | e <;> omega
  have hO := hR.own hF5 hF4.size
  skip
  refine ev_alloc rfl rfl inf47 (fun pm w6 hpm km f6 => ?_)
  refine ev_storeAgg tabOk rfl rfl rfl rfl rfl rfl km rfl (fun w7 km f7 => ?_)
  have h57 : Fr no w5 w7 := f6.trans f7 fun z hz e => by have : z = pm := e; omega
  have km : Blk w7 pm (lmC m) 47 := km
  have kr7 := kr5.fr0 h57
  have hF7 := hF5.tr h57
  have hO7 := hO.fr0 h57
  have kp7 := (r5.fr0 h57).k
  unfold decT
  rw [← hxe]
  have h57s := h57.size
  have h5s := f5.size
  refine sA [] rfl ?_; refine ev_loadB rfl rfl tabOk rfl rfl ‹_› (by rfl) ?_; refine sD [] rfl ?_; refine sD [] rfl ?_
  refine ev_condD rfl (fun ce => ?_) (fun ce => ?_)
  rotate_left
  · have he : ¬ x.e = 0 := by simpa using ce
    rw [if_neg he]
    refine sA [] rfl ?_; refine ev_loadB rfl rfl tabOk rfl rfl ‹_› (by rfl) ?_; refine sD [] rfl ?_; refine sD [] rfl ?_
    rw [show decide (¬ x.e = 0) = true from decide_eq_true he]
    refine sA [] rfl ?_
    refine mixC_in (fun w' => Blk w' p [.pointer (some ⟨q, 0, none⟩), i64 x.e] 144) mixed (fun u0 e0 => ?_)
    have kpu := kp7.fr0 e0
    have kru := kr7.fr0 e0
    have hFu := hF7.tr e0
    refine mA rfl (by kernel_rfl) (by kernel_rfl) ?_
    refine m_load 4 rfl rfl rfl (by kernel_rfl) (by kernel_rfl) rfl rfl tabOk rfl rfl (fun w' h => h.cell rfl) ?_
    refine m_build (v := lmV zM) 0 rfl rfl rfl (by kernel_rfl) (by kernel_rfl) rfl rfl rfl (fun w => by kernel_rfl) ?_
    refine mix1 rfl rfl ?_ kpu
    refine ev_storeAgg tabOk rfl rfl rfl rfl rfl rfl kru rfl (fun u1 ku1 e1 => ?_)
    have hFu1 : Fr no w u1 := hFu.trans e1 fun z hz e => by have : z = pr := e; omega
    have kpu1 := kpu.fr e1 (fun e => hprp e.symm)
    refine mix_op ?_
    refine mA rfl (by kernel_rfl) (by kernel_rfl) ?_
    refine mix_out rfl ?_ kpu1
    refine sA [] rfl ?_
    exact retG tabOk (.inr rfl) rfl [lmV zM, i64 x.e] ⟨⟨_, rfl, .inl ⟨rfl, _, rfl, rfl, Cs.of_blk ku1⟩⟩, rfl, trivial⟩ ⟨zM, rfl, rfl, zM_own hFu1⟩
  have he : x.e = 0 := by simpa using ce
  rw [if_pos he]
  have hmp := hxm he
  have hsq : SmQ m.p := by rw [hmp]; exact decT_e (by rw [← hxe]; exact he)
  have hml2 := sm_q hsq
  rw [← hmp]
  have hmat := hO7.At
  refine sA [] rfl ?_; refine ev_loadAggB rfl rfl tabOk rfl rfl ‹_› (by rfl) ?_
  refine ev_call rfl rfl rfl (wValid m w7 hmat hml2.V hml2.bl hO7.cap) ?_
  rintro r w8 ⟨rfl, f8⟩
  have kp8 := kp7.fr0 f8
  have kr8 := kr7.fr0 f8
  have km8 := km.fr0 f8
  have hF8 := hF7.tr f8
  obtain ⟨a, ha⟩ : ∃ a, a = validQ m.p := ⟨_, rfl⟩
  rw [← ha]
  clear kp7 kr7 km
  refine sA [] rfl ?_
  refine ev_store tabOk rfl rfl rfl rfl rfl rfl kp8 rfl (fun w9 kp9 f9 => ?_)
  have kp9 : Blk w9 p [.pointer (some ⟨q, 0, none⟩), i64 a.2.2] 144 := kp9
  have kr9 := kr8.fr f9 hprp
  have hF9 : Fr no w w9 := hF8.trans f9 fun z hz e => by have : z = p := e; omega
  have hpl : p < w4.heap.size := Blk.lt hrs.k
  have km9 := km8.fr f9 (fun e => by have e : pm = p := e; omega)
  refine sA [] rfl ?_; refine ev_loadB rfl rfl tabOk rfl rfl ‹_› (by rfl) ?_; refine sD [] rfl ?_; refine sD [] rfl ?_
  refine ev_condD rfl (fun c4 => ?_) (fun c4 => ?_)
  · have hv : ¬ a.2.2 = 0 := by simpa using c4
    rw [if_neg hv]
    refine sA [] rfl ?_
    refine mixC_in (fun w' => Blk w' p [.pointer (some ⟨q, 0, none⟩), i64 a.2.2] 144) mixed (fun u0 e0 => ?_)
    have kpu := kp9.fr0 e0
    have kru := kr9.fr0 e0
    have hFu := hF9.tr e0
    refine mA rfl (by kernel_rfl) (by kernel_rfl) ?_
    refine m_load 4 rfl rfl rfl (by kernel_rfl) (by kernel_rfl) rfl rfl tabOk rfl rfl (fun w' h => h.cell rfl) ?_
    refine m_build (v := lmV zM) 0 rfl rfl rfl (by kernel_rfl) (by kernel_rfl) rfl rfl rfl (fun w => by kernel_rfl) ?_
    refine mix1 rfl rfl ?_ kpu
    refine ev_storeAgg tabOk rfl rfl rfl rfl rfl rfl kru rfl (fun u1 ku1 e1 => ?_)
    have hFu1 : Fr no w u1 := hFu.trans e1 fun z hz e => by have : z = pr := e; omega
    have kpu1 := kpu.fr e1 (fun e => hprp e.symm)
    refine mix_op ?_
    refine mA rfl (by kernel_rfl) (by kernel_rfl) ?_
    refine mix_out rfl ?_ kpu1
    refine sA [] rfl ?_
    exact retG tabOk (.inr rfl) rfl [lmV zM, i64 a.2.2] ⟨⟨_, rfl, .inl ⟨rfl, _, rfl, rfl, Cs.of_blk ku1⟩⟩, rfl, trivial⟩ ⟨zM, rfl, rfl, zM_own hFu1⟩
  · have hv : a.2.2 = 0 := by simpa using c4
    rw [if_pos hv]
    refine sA [] rfl ?_; refine ev_loadAggB rfl rfl tabOk rfl rfl ‹_› (by rfl) ?_
    refine ev_storeAgg tabOk rfl rfl rfl rfl rfl rfl kr9 rfl (fun w10 kr10 f10 => ?_)
    refine sA [] rfl ?_
    have hF10 : Fr no w w10 := hF9.trans f10 fun z hz e => by have : z = pr := e; omega
    have h5a : Fr (fun c => c = p ∨ c = pr) w5 w10 := (((h57.tr f8).mono fun _ _ z => z.elim).trans f9 fun z _ e => .inl e).trans f10 fun z _ e => .inr e
    have hO10 : OwnS w w10 m := by
      obtain ⟨Q, o1, o2, o3, o4, o5⟩ := hR
      have hlow : ∀ g, w4.heap.size ≤ g → ¬ (g = p ∨ g = pr) := fun g hg e => by
        have := kr4.lt
        rcases e with e | e <;> omega
      exact RawM.own (w := w4) ⟨Q, o1.fr h5a (fun r hr g hg => hlow g ((o1.q.rows r hr).2 g hg)), o2, o3.fr h5a (fun g hg => hlow g (o1.lo _ (by simp) g hg).1), o4.fr h5a (fun g hg => hlow g (o1.lo _ (by simp) g hg).1), o5.fr h5a (fun g hg => hlow g (o1.lo _ (by simp) g hg).1)⟩ hF10 hF4.size
    exact retG tabOk (.inr rfl) rfl [lmV m, i64 0] ⟨⟨_, rfl, .inl ⟨rfl, _, rfl, rfl, Cs.of_blk kr10⟩⟩, rfl, trivial⟩ ⟨m, rfl, rfl, hO10⟩
end Go.Wk.YtdelgnflcfhhkaaGreatDoor
