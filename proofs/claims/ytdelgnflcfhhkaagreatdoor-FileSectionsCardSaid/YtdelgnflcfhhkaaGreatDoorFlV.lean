/-
  Chapter 17: the document's Decode: the walk.
-/
import Derived.Test.YtdelgnflcfhhkaaGreatDoorFlU
set_option linter.unusedVariables false
namespace Go.Wk.YtdelgnflcfhhkaaGreatDoor
open Go Go.Wk Go.Proofs

/-- Decode's answer, by a reader at place 8 -/
def decR (T : List UInt8) (R : Sc × Md) : Md × Int :=
  if R.1.e = 0 then if R.1.i < T.length then (zM.p, 13) else if (validQ R.2).2.2 = 0 then (R.2, 0) else (zM.p, (validQ R.2).2.2) else (zM.p, R.1.e)
theorem decT_shift {s : List UInt8} (h : 16 ≤ s.length) : decT (midQ s) = decR (s.take (s.length - 8)) (rMod (s.take (s.length - 8)) ⟨8, 0⟩) := by
  obtain ⟨T, hT⟩ : ∃ T, T = s.take (s.length - 8) := ⟨_, rfl⟩
  have hl : T.length = s.length - 8 := by rw [hT, List.length_take]; omega
  have hp : (T.take 8).length = 8 := by rw [List.length_take]; omega
  have hm : midQ s = T.drop 8 := by rw [mid_take, ← hT]
  have hs := good_mod.shift (T.take 8) (T.drop 8) 0 0
  rw [List.take_append_drop, hp] at hs
  have hs : rMod T ⟨8, 0⟩ = _ := hs
  rw [← hT, hs, hm]
  obtain ⟨⟨⟨i, e⟩, v⟩, hR⟩ : ∃ R, R = rMod (T.drop 8) ⟨0, 0⟩ := ⟨_, rfl⟩
  unfold decT decR endE
  rw [← hR]
  have hdl : (T.drop 8).length = T.length - 8 := List.length_drop
  simp only [hdl]
  by_cases he : e = 0
  · rw [if_pos he, if_pos he]
    by_cases h1 : i < T.length - 8
    · rw [if_pos h1, if_pos (show 8 + i < T.length by omega), if_neg (by decide)]
    · rw [if_neg h1, if_neg (show ¬ 8 + i < T.length by omega), if_pos rfl]
  · rw [if_neg he, if_neg he, if_neg he]
/-- the answer's block is written -/
theorem DS.out {wi w0 w w' : World} {pn p5 pm pr pz : Nat} {T : List UInt8} {s : Shp} {x : Sc} {cells : List Value} {bv mv tv : Value} {Q : List Rw} {V : VV} {B : List (Bk Rw)} (h : DS wi w0 w pn p5 pm pr pz T s x cells bv mv tv Q V B) (hf : Fr (fun c => c = pr) w w') :
    OM w0 w' bv mv tv Q ∧ Own w' 9 1 tv V.texts.length (V.texts.map sv) ∧ Own w' 134 3 mv V.merges.length (mcs V.merges) ∧ Own w' 86 17 bv B.length (B.flatMap bkC) ∧ Fr no wi w' := by
  obtain ⟨o1, o2⟩ := h.old (b := pr) (by simp)
  have hb := h.lt pr (by simp)
  exact ⟨h.om.fr hf o1, h.tx.fr hf (o2 tv (by simp)), h.mg.fr hf (o2 mv (by simp)), h.bk.fr hf (o2 bv (by simp)), h.fr.trans hf fun z hz e => by have e : z = pr := e; omega⟩
set_option maxHeartbeats 32000000 in
theorem refDecode (s : List UInt8) (w : World) (hs : s.length ≤ 140737488351240) :
    CallsF Tryz.prog 19 [.string (sOf s)] w fun r w' => ∃ m : LM, r = .tuple #[lmV m, i64 (decA s).2] ∧ m.p = (decA s).1 ∧ m.At w' ∧ Fr no w w' := by
  unfold decA
  refine callsF Tryz.func19 rfl rfl (by decide) rfl ?_
  refine sA [] rfl ?_
  refine ev_alloc rfl rfl inf56 (fun pr w1 hpr kr f1 => ?_)
  have kr : Blk w1 pr (lmC zM) 56 := kr
  have lr : pr < w1.heap.size := kr.lt
  refine sA [] rfl ?_
  refine ev_build rfl rfl (v := lmV zM) rfl (fun w => by kernel_rfl) ?_
  refine ev_alloc rfl rfl inf56 (fun pn w2 hpn kn f2 => ?_)
  refine ev_storeAgg tabOk rfl rfl rfl rfl rfl rfl kn rfl (fun w3 kn3 f3 => ?_)
  have ln : pn < w2.heap.size := kn.lt
  have kn3 : Blk w3 pn (lmC zM) 56 := kn3
  have h13 : Fr no w1 w3 := f2.trans f3 fun z hz e => by have : z = pn := e; omega
  have kr3 := kr.fr0 h13
  have hF3 := f1.tr h13
  have hprw : w.heap.size ≤ pr := hpr
  have zat : ∀ w', zM.At w' := fun w' => (zM_own (TM := 0) (TB := 0) (Fr.refl no w')).At
  refine sC [] rfl ?_; refine sC [] rfl ?_
  refine ev_condD rfl (fun c => ?_) (fun c => ?_)
  · have h1 : s.length < 16 := by omega
    rw [if_pos h1]
    refine sA [] rfl ?_; refine ev_loadAggB rfl rfl tabOk rfl rfl ‹_› (by rfl) ?_
    refine ev_storeAgg tabOk rfl rfl rfl rfl rfl rfl kr3 rfl (fun w4 k4 f4 => ?_)
    have hF4 : Fr no w w4 := hF3.trans f4 fun z hz e => by have : z = pr := e; omega
    refine sA [] rfl ?_
    exact retG tabOk (.inr rfl) rfl [lmV zM, i64 11] ⟨⟨_, rfl, .inl ⟨rfl, _, rfl, rfl, Cs.of_blk k4⟩⟩, rfl, trivial⟩ ⟨zM, rfl, rfl, zat _, hF4⟩
  have h1 : ¬ s.length < 16 := by omega
  rw [if_neg h1]
  refine sA [] rfl ?_
  refine ev_sliceStr (s := s) (i := 0) (j := 8) rfl rfl tabOk rfl rfl rfl rfl (by omega) (by omega) (by omega) ?_
  rw [show (s.take (Int.toNat 8)).drop (Int.toNat 0) = s.take 8 from List.drop_zero]
  refine sD [] rfl ?_; refine sD [] rfl ?_
  refine ev_condD rfl (fun c2 => ?_) (fun c2 => ?_)
  · have h2 : s.take 8 ≠ MAGIC := c2
    rw [if_pos h2]
    refine sA [] rfl ?_; refine ev_loadAggB rfl rfl tabOk rfl rfl ‹_› (by rfl) ?_
    refine ev_storeAgg tabOk rfl rfl rfl rfl rfl rfl kr3 rfl (fun w4 k4 f4 => ?_)
    have hF4 : Fr no w w4 := hF3.trans f4 fun z hz e => by have : z = pr := e; omega
    refine sA [] rfl ?_
    exact retG tabOk (.inr rfl) rfl [lmV zM, i64 170] ⟨⟨_, rfl, .inl ⟨rfl, _, rfl, rfl, Cs.of_blk k4⟩⟩, rfl, trivial⟩ ⟨zM, rfl, rfl, zat _, hF4⟩
  have h2 : ¬ s.take 8 ≠ MAGIC := c2
  rw [if_neg h2]
  refine sA [] rfl ?_
  refine ev_draw mixed (by kernel_rfl) ?_
  refine qA rfl ?_; refine q_arith rfl rfl rfl rfl rfl (by simp only [lowK, hiK]; omega) ?_
  refine q_sliceStr (s := s) (i := (s.length : Int) - 8) (j := s.length) rfl rfl tabOk rfl rfl rfl rfl (by omega) (by omega) (by omega) ?_
  rw [show (s.take ((s.length : Int)).toNat).drop ((s.length : Int) - 8).toNat = s.drop (s.length - 8) by rw [show ((s.length : Int) - 8).toNat = s.length - 8 by omega, Int.toNat_natCast, List.take_length]]
  refine qA rfl ?_; refine q_arith rfl rfl rfl rfl rfl (by simp only [lowK, hiK]; omega) ?_
  refine q_sliceStr (s := s) (i := 0) (j := (s.length : Int) - 8) rfl rfl tabOk rfl rfl rfl rfl (by omega) (by omega) (by omega) ?_
  rw [show (s.take ((s.length : Int) - 8).toNat).drop (Int.toNat 0) = s.take (s.length - 8) by rw [show ((s.length : Int) - 8).toNat = s.length - 8 by omega]; rfl]
  skip
  refine q_call rfl rfl rfl (fun w' hw' => (hDigest (s.take (s.length - 8)) w' (by rw [List.length_take]; omega)).mono fun u w'' z => ⟨z.1, hw'.tr z.2⟩) ?_
  refine qA rfl ?_
  refine q_end fun w4 f4 => ?_
  have kr4 := kr3.fr0 f4
  have kn4 := kn3.fr0 f4
  have hF4 := hF3.tr f4
  skip
  refine ev_condD rfl (fun c3 => ?_) (fun c3 => ?_)
  · have h3 : sumB (s.take (s.length - 8)) ≠ s.drop (s.length - 8) := fun e => c3 e.symm
    rw [if_pos h3]
    refine sA [] rfl ?_; refine ev_loadAggB rfl rfl tabOk rfl rfl ‹_› (by rfl) ?_
    refine ev_storeAgg tabOk rfl rfl rfl rfl rfl rfl kr4 rfl (fun w5 k5 f5 => ?_)
    have hF5 : Fr no w w5 := hF4.trans f5 fun z hz e => by have : z = pr := e; omega
    refine sA [] rfl ?_
    exact retG tabOk (.inr rfl) rfl [lmV zM, i64 171] ⟨⟨_, rfl, .inl ⟨rfl, _, rfl, rfl, Cs.of_blk k5⟩⟩, rfl, trivial⟩ ⟨zM, rfl, rfl, zat _, hF5⟩
  have h3 : ¬ sumB (s.take (s.length - 8)) ≠ s.drop (s.length - 8) := fun e => c3 fun z => e z.symm
  rw [if_neg h3, decT_shift (by omega)]
  refine sA [] rfl ?_; refine ev_arith rfl rfl rfl rfl rfl (by simp only [lowK, hiK]; omega) ?_
  refine ev_sliceStr (s := s) (i := 0) (j := (s.length : Int) - 8) rfl rfl tabOk rfl rfl rfl rfl (by omega) (by omega) (by omega) ?_
  rw [show (s.take ((s.length : Int) - 8).toNat).drop (Int.toNat 0) = s.take (s.length - 8) by rw [show ((s.length : Int) - 8).toNat = s.length - 8 by omega]; rfl]
  obtain ⟨T, hT⟩ : ∃ T, T = s.take (s.length - 8) := ⟨_, rfl⟩
  have hTl : T.length = s.length - 8 := by rw [hT, List.length_take]; omega
  rw [← hT]
  skip
  refine ev_build rfl rfl (v := .agg ⟨[.string (sOf T), i64 8]⟩) rfl (fun w => by kernel_rfl) ?_
  refine ev_build rfl rfl (v := scV T ⟨8, 0⟩) rfl (fun w => by kernel_rfl) ?_
  refine ev_alloc rfl rfl inf149 (fun p5 w5 hp5 k5 f5 => ?_)
  have l5 : p5 < w5.heap.size := k5.lt
  refine ev_storeAgg tabOk rfl rfl rfl rfl rfl rfl k5 rfl (fun w6 k56 f6 => ?_)
  have k56 : Blk w6 p5 (scC T ⟨8, 0⟩) 149 := k56
  have h46 : Fr no w4 w6 := f5.trans f6 fun z hz e => by have : z = p5 := e; omega
  refine sA [] rfl ?_
  refine ev_build rfl rfl (v := lmV zM) rfl (fun w => by kernel_rfl) ?_
  refine ev_alloc rfl rfl inf56 (fun pm w7 hpm km f7 => ?_)
  have lm : pm < w7.heap.size := km.lt
  refine ev_storeAgg tabOk rfl rfl rfl rfl rfl rfl km rfl (fun w8 km8 f8 => ?_)
  have km : Blk w8 pm (ofC ⟨0, 0, 0, 0, 0, 0⟩ nilS nilS nilS 0 nilS nilS nilS nilS nilS nilS 0) 56 := km8
  have h68 : Fr no w6 w8 := f7.trans f8 fun z hz e => by have : z = pm := e; omega
  have h48 := h46.tr h68
  have hF := hF4.tr h48
  have kr := kr4.fr0 h48
  have kn := kn4.fr0 h48
  have k5 := k56.fr0 h68
  have s1 := h13.size
  have s2 := f4.size
  have s3 := f5.size
  have s4 := f6.size
  have s5 := f7.size
  have s6 := f8.size
  have s7 := f2.size
  have s8 := f3.size
  have s9 := f1.size
  have hnp : pr ≠ p5 ∧ pr ≠ pm ∧ pn ≠ p5 ∧ pn ≠ pm ∧ p5 ≠ pm ∧ pr ≠ pn := ⟨fun e => by omega, fun e => by omega, fun e => by omega, fun e => by omega, fun e => by omega, fun e => by omega⟩
  obtain ⟨m1, m2, m3, m4, m5, m6⟩ := hnp
  have hw5 : w.heap.size ≤ p5 := by omega
  have hwm : w.heap.size ≤ pm := by omega
  have hsw : w8.heap.size ≤ w8.heap.size := Nat.le_refl _
  have hle : (⟨8, 0⟩ : Sc).i ≤ T.length := by show 8 ≤ T.length; omega
  clear kr3 kr4 kn3 kn4 k56 km8
  refine sA [] rfl ?_; refine ev_loadAggB rfl rfl tabOk rfl rfl ‹_› (by rfl) ?_
  refine ev_call rfl rfl rfl (hScN T (⟨8, 0⟩ : Sc) 2 _ hle (by omega)) ?_
  rintro r u1 ⟨rfl, e1⟩
  have kr := kr.fr0 e1
  have kn := kn.fr0 e1
  have k5 := k5.fr0 e1
  have km := km.fr0 e1
  have hF := hF.tr e1
  have hsw := Nat.le_trans hsw e1.size
  have hle := (good_num 2).le T (⟨8, 0⟩ : Sc) hle
  obtain ⟨⟨x1, a0⟩, h0n⟩ : ∃ zz, zz = rNum 2 T (⟨8, 0⟩ : Sc) := ⟨_, rfl⟩
  rw [← h0n] at hle ⊢
  refine sA [] rfl ?_
  refine ev_storeAgg tabOk rfl rfl rfl rfl rfl rfl k5 rfl (fun u2 j2 e2 => ?_)
  have k5 : Blk u2 p5 (scC T x1) 149 := j2
  have kr := kr.fr e2 m1
  have kn := kn.fr e2 m3
  have km := km.fr e2 (fun e => m5 e.symm)
  have hF := hF.trans e2 fun z hz e => by have : z = p5 := e; omega
  have hsw := Nat.le_trans hsw e2.size
  refine sA [] rfl ?_
  refine ev_store tabOk rfl rfl rfl rfl rfl rfl km rfl (fun u3 j3 e3 => ?_)
  have km : Blk u3 pm (ofC ⟨a0, 0, 0, 0, 0, 0⟩ nilS nilS nilS 0 nilS nilS nilS nilS nilS nilS 0) 56 := j3
  have kr := kr.fr e3 m2
  have kn := kn.fr e3 m4
  have k5 := k5.fr e3 m5
  have hF := hF.trans e3 fun z hz e => by have : z = pm := e; omega
  have hsw := Nat.le_trans hsw e3.size
  clear j2 j3
  refine sA [] rfl ?_; refine ev_loadAggB rfl rfl tabOk rfl rfl ‹_› (by rfl) ?_
  refine ev_call rfl rfl rfl (hScN T x1 2 _ hle (by omega)) ?_
  rintro r u1 ⟨rfl, e1⟩
  have kr := kr.fr0 e1
  have kn := kn.fr0 e1
  have k5 := k5.fr0 e1
  have km := km.fr0 e1
  have hF := hF.tr e1
  have hsw := Nat.le_trans hsw e1.size
  have hle := (good_num 2).le T x1 hle
  obtain ⟨⟨x2, a1⟩, h1n⟩ : ∃ zz, zz = rNum 2 T x1 := ⟨_, rfl⟩
  rw [← h1n] at hle ⊢
  refine sA [] rfl ?_
  refine ev_storeAgg tabOk rfl rfl rfl rfl rfl rfl k5 rfl (fun u2 j2 e2 => ?_)
  have k5 : Blk u2 p5 (scC T x2) 149 := j2
  have kr := kr.fr e2 m1
  have kn := kn.fr e2 m3
  have km := km.fr e2 (fun e => m5 e.symm)
  have hF := hF.trans e2 fun z hz e => by have : z = p5 := e; omega
  have hsw := Nat.le_trans hsw e2.size
  refine sA [] rfl ?_
  refine ev_store tabOk rfl rfl rfl rfl rfl rfl km rfl (fun u3 j3 e3 => ?_)
  have km : Blk u3 pm (ofC ⟨a0, a1, 0, 0, 0, 0⟩ nilS nilS nilS 0 nilS nilS nilS nilS nilS nilS 0) 56 := j3
  have kr := kr.fr e3 m2
  have kn := kn.fr e3 m4
  have k5 := k5.fr e3 m5
  have hF := hF.trans e3 fun z hz e => by have : z = pm := e; omega
  have hsw := Nat.le_trans hsw e3.size
  clear j2 j3
  refine sA [] rfl ?_; refine ev_loadAggB rfl rfl tabOk rfl rfl ‹_› (by rfl) ?_
  refine ev_call rfl rfl rfl (hScN T x2 2 _ hle (by omega)) ?_
  rintro r u1 ⟨rfl, e1⟩
  have kr := kr.fr0 e1
  have kn := kn.fr0 e1
  have k5 := k5.fr0 e1
  have km := km.fr0 e1
  have hF := hF.tr e1
  have hsw := Nat.le_trans hsw e1.size
  have hle := (good_num 2).le T x2 hle
  obtain ⟨⟨x3, a2⟩, h2n⟩ : ∃ zz, zz = rNum 2 T x2 := ⟨_, rfl⟩
  rw [← h2n] at hle ⊢
  refine sA [] rfl ?_
  refine ev_storeAgg tabOk rfl rfl rfl rfl rfl rfl k5 rfl (fun u2 j2 e2 => ?_)
  have k5 : Blk u2 p5 (scC T x3) 149 := j2
  have kr := kr.fr e2 m1
  have kn := kn.fr e2 m3
  have km := km.fr e2 (fun e => m5 e.symm)
  have hF := hF.trans e2 fun z hz e => by have : z = p5 := e; omega
  have hsw := Nat.le_trans hsw e2.size
  refine sA [] rfl ?_
  refine ev_store tabOk rfl rfl rfl rfl rfl rfl km rfl (fun u3 j3 e3 => ?_)
  have km : Blk u3 pm (ofC ⟨a0, a1, a2, 0, 0, 0⟩ nilS nilS nilS 0 nilS nilS nilS nilS nilS nilS 0) 56 := j3
  have kr := kr.fr e3 m2
  have kn := kn.fr e3 m4
  have k5 := k5.fr e3 m5
  have hF := hF.trans e3 fun z hz e => by have : z = pm := e; omega
  have hsw := Nat.le_trans hsw e3.size
  clear j2 j3
  refine sA [] rfl ?_; refine ev_loadAggB rfl rfl tabOk rfl rfl ‹_› (by rfl) ?_
  refine ev_call rfl rfl rfl (hScN T x3 2 _ hle (by omega)) ?_
  rintro r u1 ⟨rfl, e1⟩
  have kr := kr.fr0 e1
  have kn := kn.fr0 e1
  have k5 := k5.fr0 e1
  have km := km.fr0 e1
  have hF := hF.tr e1
  have hsw := Nat.le_trans hsw e1.size
  have hle := (good_num 2).le T x3 hle
  obtain ⟨⟨x4, a3⟩, h3n⟩ : ∃ zz, zz = rNum 2 T x3 := ⟨_, rfl⟩
  rw [← h3n] at hle ⊢
  refine sA [] rfl ?_
  refine ev_storeAgg tabOk rfl rfl rfl rfl rfl rfl k5 rfl (fun u2 j2 e2 => ?_)
  have k5 : Blk u2 p5 (scC T x4) 149 := j2
  have kr := kr.fr e2 m1
  have kn := kn.fr e2 m3
  have km := km.fr e2 (fun e => m5 e.symm)
  have hF := hF.trans e2 fun z hz e => by have : z = p5 := e; omega
  have hsw := Nat.le_trans hsw e2.size
  refine sA [] rfl ?_
  refine ev_store tabOk rfl rfl rfl rfl rfl rfl km rfl (fun u3 j3 e3 => ?_)
  have km : Blk u3 pm (ofC ⟨a0, a1, a2, a3, 0, 0⟩ nilS nilS nilS 0 nilS nilS nilS nilS nilS nilS 0) 56 := j3
  have kr := kr.fr e3 m2
  have kn := kn.fr e3 m4
  have k5 := k5.fr e3 m5
  have hF := hF.trans e3 fun z hz e => by have : z = pm := e; omega
  have hsw := Nat.le_trans hsw e3.size
  clear j2 j3
  refine sA [] rfl ?_; refine ev_loadAggB rfl rfl tabOk rfl rfl ‹_› (by rfl) ?_
  refine ev_call rfl rfl rfl (hScN T x4 2 _ hle (by omega)) ?_
  rintro r u1 ⟨rfl, e1⟩
  have kr := kr.fr0 e1
  have kn := kn.fr0 e1
  have k5 := k5.fr0 e1
  have km := km.fr0 e1
  have hF := hF.tr e1
  have hsw := Nat.le_trans hsw e1.size
  have hle := (good_num 2).le T x4 hle
  obtain ⟨⟨x5, a4⟩, h4n⟩ : ∃ zz, zz = rNum 2 T x4 := ⟨_, rfl⟩
  rw [← h4n] at hle ⊢
  refine sA [] rfl ?_
  refine ev_storeAgg tabOk rfl rfl rfl rfl rfl rfl k5 rfl (fun u2 j2 e2 => ?_)
  have k5 : Blk u2 p5 (scC T x5) 149 := j2
  have kr := kr.fr e2 m1
  have kn := kn.fr e2 m3
  have km := km.fr e2 (fun e => m5 e.symm)
  have hF := hF.trans e2 fun z hz e => by have : z = p5 := e; omega
  have hsw := Nat.le_trans hsw e2.size
  refine sA [] rfl ?_
  refine ev_store tabOk rfl rfl rfl rfl rfl rfl km rfl (fun u3 j3 e3 => ?_)
  have km : Blk u3 pm (ofC ⟨a0, a1, a2, a3, a4, 0⟩ nilS nilS nilS 0 nilS nilS nilS nilS nilS nilS 0) 56 := j3
  have kr := kr.fr e3 m2
  have kn := kn.fr e3 m4
  have k5 := k5.fr e3 m5
  have hF := hF.trans e3 fun z hz e => by have : z = pm := e; omega
  have hsw := Nat.le_trans hsw e3.size
  clear j2 j3
  refine sA [] rfl ?_; refine ev_loadAggB rfl rfl tabOk rfl rfl ‹_› (by rfl) ?_
  refine ev_call rfl rfl rfl (hScN T x5 2 _ hle (by omega)) ?_
  rintro r u1 ⟨rfl, e1⟩
  have kr := kr.fr0 e1
  have kn := kn.fr0 e1
  have k5 := k5.fr0 e1
  have km := km.fr0 e1
  have hF := hF.tr e1
  have hsw := Nat.le_trans hsw e1.size
  have hle := (good_num 2).le T x5 hle
  obtain ⟨⟨x6, a5⟩, h5n⟩ : ∃ zz, zz = rNum 2 T x5 := ⟨_, rfl⟩
  rw [← h5n] at hle ⊢
  refine sA [] rfl ?_
  refine ev_storeAgg tabOk rfl rfl rfl rfl rfl rfl k5 rfl (fun u2 j2 e2 => ?_)
  have k5 : Blk u2 p5 (scC T x6) 149 := j2
  have kr := kr.fr e2 m1
  have kn := kn.fr e2 m3
  have km := km.fr e2 (fun e => m5 e.symm)
  have hF := hF.trans e2 fun z hz e => by have : z = p5 := e; omega
  have hsw := Nat.le_trans hsw e2.size
  refine sA [] rfl ?_
  refine ev_store tabOk rfl rfl rfl rfl rfl rfl km rfl (fun u3 j3 e3 => ?_)
  have km : Blk u3 pm (ofC ⟨a0, a1, a2, a3, a4, a5⟩ nilS nilS nilS 0 nilS nilS nilS nilS nilS nilS 0) 56 := j3
  have kr := kr.fr e3 m2
  have kn := kn.fr e3 m4
  have k5 := k5.fr e3 m5
  have hF := hF.trans e3 fun z hz e => by have : z = pm := e; omega
  have hsw := Nat.le_trans hsw e3.size
  clear j2 j3
  obtain ⟨sh, hsh⟩ : ∃ sh : Shp, sh = ⟨a0, a1, a2, a3, a4, a5⟩ := ⟨_, rfl⟩
  rw [← hsh] at km
  have hrep : rRep (rNum 2) 6 T ⟨8, 0⟩ = (x6, [a0, a1, a2, a3, a4, a5]) := by
    simp only [rRep, bind_eq, ret_eq, ← h0n, ← h1n, ← h2n, ← h3n, ← h4n, ← h5n]
    rfl
  have hH : rHead T ⟨8, 0⟩ = ((rChk (decide (okS sh)) 160 T x6).1, sh) := by
    rw [rHead_eq, hrep, hsh]
    rfl
  rw [rMod_eq, hH]
  refine sA [] rfl ?_; refine ev_loadB rfl rfl tabOk rfl rfl ‹_› (by rfl) ?_; refine sD [] rfl ?_; refine sD [] rfl ?_
  refine ev_condD rfl (fun ce => ?_) (fun ce => ?_)
  · have he : x6.e ≠ 0 := by simpa using ce
    have hck : (rChk (decide (okS sh)) 160 T x6).1 = x6 := (good_chk _ _).stick T x6 he
    have hst := (good_body sh (halfS sh)).stick T x6 he
    have hdr : decR T (rBody sh (halfS sh) T (rChk (decide (okS sh)) 160 T x6).1) = (zM.p, x6.e) := by
      unfold decR
      rw [hck, hst, if_neg he]
    rw [hdr]
    refine sA [] rfl ?_
    refine mixC_in (fun w' => Blk w' pn (lmC zM) 56 ∧ Blk w' p5 (scC T x6) 149) mixed (fun v0 g0 => ?_)
    have kr := kr.fr0 g0
    have kn := kn.fr0 g0
    have k5 := k5.fr0 g0
    have hF := hF.tr g0
    refine mA rfl (by kernel_rfl) (by kernel_rfl) ?_
    refine m_loadAgg 0 rfl rfl rfl (by kernel_rfl) (by kernel_rfl) rfl rfl tabOk rfl rfl rfl (fun w' h => Cs.of_blk h.1) ?_
    refine m_load 2 rfl rfl rfl (by kernel_rfl) (by kernel_rfl) rfl rfl tabOk rfl rfl (fun w' h => h.2.cell rfl) ?_
    refine mix1 rfl rfl ?_ ⟨kn, k5⟩
    refine ev_storeAgg tabOk rfl rfl rfl rfl rfl rfl kr rfl (fun v1 j1 g1 => ?_)
    have hF1 : Fr no w v1 := hF.trans g1 fun z hz e => by have : z = pr := e; omega
    refine mix_op ?_
    refine mA rfl (by kernel_rfl) (by kernel_rfl) ?_
    refine mix_out rfl ?_ ⟨kn.fr g1 (fun e => m6 e.symm), k5.fr g1 (fun e => m1 e.symm)⟩
    refine sA [] rfl ?_
    exact retG tabOk (.inr rfl) rfl [lmV zM, i64 x6.e] ⟨⟨_, rfl, .inl ⟨rfl, _, rfl, rfl, Cs.of_blk j1⟩⟩, rfl, trivial⟩ ⟨zM, rfl, rfl, zat _, hF1⟩
  have he : x6.e = 0 := by simpa using ce
  have hsp : Cs _ (some ⟨pm, 0 + 0, none⟩) (shpC sh) := (Cs.of_blk km).part 0 fun j u hj => by
    match j, hj with
    | 0, h => exact h
    | 1, h => exact h
    | 2, h => exact h
    | 3, h => exact h
    | 4, h => exact h
    | 5, h => exact h
    | n + 6, h => simp at h
  refine sA [] rfl ?_
  refine ev_loadAgg rfl rfl tabOk rfl rfl rfl hsp ?_
  refine ev_call rfl rfl rfl (refChk sh _) ?_
  rintro r v1 ⟨rfl, e1⟩
  have kr := kr.fr0 e1
  have kn := kn.fr0 e1
  have k5 := k5.fr0 e1
  have km := km.fr0 e1
  have hF := hF.tr e1
  have hsw := Nat.le_trans hsw e1.size
  clear hsp
  refine sC [] rfl ?_; refine sD [] rfl ?_; refine sD [] rfl ?_; refine sD [] rfl ?_
  by_cases hok : okS sh
  rotate_left
  · rw [chk_n hok]
    have hdr : decR T (rBody sh (halfS sh) T (rChk (decide (okS sh)) 160 T x6).1) = (zM.p, 160) := by
      have hck : (rChk (decide (okS sh)) 160 T x6).1 = ⟨x6.i, 160⟩ := by unfold rChk; rw [if_pos he, if_neg (by simp [hok])]
      have hst := (good_body sh (halfS sh)).stick T ⟨x6.i, 160⟩ (show (160 : Int) ≠ 0 by decide)
      unfold decR
      rw [hck, hst, if_neg (show ¬ (160 : Int) = 0 by decide)]
    rw [hdr]
    refine sA [] rfl ?_; refine ev_loadAggB rfl rfl tabOk rfl rfl ‹_› (by rfl) ?_; refine sA [] rfl ?_
    refine ev_storeAgg tabOk rfl rfl rfl rfl rfl rfl kr rfl (fun v2 j2 g2 => ?_)
    have hF2 : Fr no w v2 := hF.trans g2 fun z hz e => by have : z = pr := e; omega
    refine sA [] rfl ?_
    exact retG tabOk (.inr rfl) rfl [lmV zM, i64 160] ⟨⟨_, rfl, .inl ⟨rfl, _, rfl, rfl, Cs.of_blk j2⟩⟩, rfl, trivial⟩ ⟨zM, rfl, rfl, zat _, hF2⟩
  have hck : (rChk (decide (okS sh)) 160 T x6).1 = x6 := by unfold rChk; rw [if_pos he, if_pos (by simp [hok])]
  rw [chk_y hok, hck]
  have hsp : Cs _ (some ⟨pm, 0 + 0, none⟩) (shpC sh) := (Cs.of_blk km).part 0 fun j u hj => by
    match j, hj with
    | 0, h => exact h
    | 1, h => exact h
    | 2, h => exact h
    | 3, h => exact h
    | 4, h => exact h
    | 5, h => exact h
    | n + 6, h => simp at h
  refine sA [] rfl ?_
  refine ev_loadAgg rfl rfl tabOk rfl rfl rfl hsp ?_
  refine ev_alloc rfl rfl inf50 (fun pz v2 hpz kz e2 => ?_)
  have lz : pz < v2.heap.size := kz.lt
  refine ev_storeAgg tabOk rfl rfl rfl rfl rfl rfl kz rfl (fun v3 kz3 e3 => ?_)
  have kz : Blk v3 pz (shpC sh) 50 := kz3
  have t2 := e2.size
  have t3 := e3.size
  have e23 : Fr no v1 v3 := e2.trans e3 fun z hz e => by have : z = pz := e; omega
  have M : DS w v3 v3 pn p5 pm pr pz T sh x6 (ofC sh nilS nilS nilS 0 nilS nilS nilS nilS nilS nilS 0) nilS nilS nilS [] ⟨[], []⟩ [] :=
    ⟨kn.fr0 e23, k5.fr0 e23, km.fr0 e23, kr.fr0 e23, kz, OM.start _ _ (NR.nil _ _), Own.nil _ _ _, Own.nil _ _ _, Own.nil _ _ _, hF.tr e23, Nat.le_refl _, fun b hb => by
      simp only [List.mem_cons, List.not_mem_nil, or_false] at hb
      rcases hb with rfl | rfl | rfl | rfl | rfl <;> omega, by omega, by
      simp only [List.nodup_cons, List.mem_cons, List.not_mem_nil, or_false, not_or, not_false_eq_true, and_true, List.nodup_nil]
      omega, hle⟩
  clear kn k5 km kr kz kz3 hsp
  have k5 := M.k5
  refine sA [] rfl ?_; refine ev_loadAggB rfl rfl tabOk rfl rfl ‹_› (by rfl) ?_
  refine ev_call rfl rfl rfl (hScN T x6 1 _ M.le (by omega)) ?_
  rintro r u1 ⟨rfl, e1⟩
  have M := M.fr0 e1
  have hle := (good_num 1).le T x6 M.le
  obtain ⟨⟨x7, es⟩, h7⟩ : ∃ zz, zz = rNum 1 T x6 := ⟨_, rfl⟩
  rw [← h7] at hle ⊢
  clear k5
  have k5 := M.k5
  refine sA [] rfl ?_
  refine ev_storeAgg tabOk rfl rfl rfl rfl rfl rfl k5 rfl (fun u2 j2 e2 => ?_)
  have M := M.set5 (x' := x7) j2 e2 hle
  clear k5 j2
  have km := M.km
  refine sA [] rfl ?_
  refine ev_store tabOk rfl rfl rfl rfl rfl rfl km rfl (fun u3 j3 e3 => ?_)
  have M := M.setm (cells' := ofC sh nilS nilS nilS es nilS nilS nilS nilS nilS nilS 0) j3 e3
  clear km j3
  have k5 := M.k5
  refine sA [] rfl ?_; refine ev_loadAggB rfl rfl tabOk rfl rfl ‹_› (by rfl) ?_
  refine ev_call rfl rfl rfl (hScN T x7 1 _ M.le (by omega)) ?_
  rintro r u1 ⟨rfl, e1⟩
  have M := M.fr0 e1
  have hle := (good_num 1).le T x7 M.le
  obtain ⟨⟨x8, ls⟩, h8⟩ : ∃ zz, zz = rNum 1 T x7 := ⟨_, rfl⟩
  rw [← h8] at hle ⊢
  clear k5
  have k5 := M.k5
  refine sA [] rfl ?_
  refine ev_storeAgg tabOk rfl rfl rfl rfl rfl rfl k5 rfl (fun u2 j2 e2 => ?_)
  have M := M.set5 (x' := x8) j2 e2 hle
  clear k5 j2
  have km := M.km
  refine sA [] rfl ?_
  refine ev_store tabOk rfl rfl rfl rfl rfl rfl km rfl (fun u3 j3 e3 => ?_)
  have M := M.setm (cells' := ofC sh nilS nilS nilS es nilS nilS nilS nilS nilS nilS ls) j3 e3
  clear km j3
  have k5 := M.k5
  have kz := M.kz
  refine sA [] rfl ?_; refine ev_loadAggB rfl rfl tabOk rfl rfl ‹_› (by rfl) ?_; refine sA [] rfl ?_; refine ev_loadB rfl rfl tabOk rfl rfl ‹_› (by rfl) ?_
  have hvv : sh.voc = (sh.voc.toNat : Nat) := by have := hok.1; omega
  have hvn : sh.voc.toNat ≤ 512 := by have := hok.1; omega
  obtain ⟨nv, hnv⟩ : ∃ nv, nv = sh.voc.toNat := ⟨_, rfl⟩
  rw [← hnv] at hvv hvn
  rw [hvv]
  refine ev_call rfl rfl rfl (hWords T x8 nv _ M.le (by omega) hvn) ?_
  rintro r u4 ⟨x9, vA, vc, vB, vd, V, rfl, hx9, hV, hvt, hvm, hnt, hnm, e4, hle9⟩
  have M := M.setV e4 hvt hvm hnt hnm
  clear k5 kz
  have k5 := M.k5
  refine sA [] rfl ?_
  refine ev_storeAgg tabOk rfl rfl rfl rfl rfl rfl k5 rfl (fun u5 j5 e5 => ?_)
  have M := M.set5 (x' := x9) j5 e5 hle9
  have km := M.km
  clear k5
  refine sA [] rfl ?_
  refine ev_storePart tabOk rfl rfl rfl rfl rfl rfl km (show 6 + 2 ≤ 17 by omega) (fun u6 j6 e6 => ?_)
  have M := M.setm (cells' := ofC sh (.slice vA V.texts.length vc) (.slice vB V.merges.length vd) nilS es nilS nilS nilS nilS nilS nilS ls) j6 e6
  clear km j5 j6
  have hs2 : T.length ≤ 140737488355232 := by omega
  obtain ⟨d1, d2⟩ := hok.2.2.1
  obtain ⟨c1', c2'⟩ := hok.2.1
  have hhf := half_bd hok
  have hm1 := mul_bd (a := sh.voc) (b := sh.dim) (m := 512) (k := 64) (by omega) (by omega) (by omega) (by omega)
  have hm2 := mul_bd (a := sh.ctx) (b := halfS sh) (m := 512) (k := 32) (by omega) (by omega) (by omega) (by omega)
  have kz := M.kz
  refine sA [] rfl ?_; refine ev_loadAggB rfl rfl tabOk rfl rfl ‹_› (by rfl) ?_
  refine ev_call rfl rfl rfl (refHalf sh _) ?_
  rintro r u7 ⟨rfl, e7⟩
  have M := M.fr0 e7
  clear kz
  have k5 := M.k5
  have kz := M.kz
  refine sA [] rfl ?_; refine ev_loadAggB rfl rfl tabOk rfl rfl ‹_› (by rfl) ?_; refine sA [] rfl ?_; refine ev_loadB rfl rfl tabOk rfl rfl ‹_› (by rfl) ?_; refine sA [] rfl ?_; refine ev_loadB rfl rfl tabOk rfl rfl ‹_› (by rfl) ?_; refine ev_arith rfl rfl rfl rfl rfl (by simp only [lowK, hiK]; omega) ?_
  refine ev_call rfl rfl rfl (hScR T x9 (sh.voc * sh.dim) _ M.le hs2 (by omega)) ?_
  rintro r u1 ⟨r1, rfl, qr1, or1, e1⟩
  have M := M.rows (NR.one or1) e1
  have hle := (good_row (sh.voc * sh.dim)).le T x9 M.le
  obtain ⟨⟨y1, l1⟩, g1⟩ : ∃ zz, zz = rRow (sh.voc * sh.dim) T x9 := ⟨_, rfl⟩
  rw [← g1] at hle qr1 ⊢
  clear k5 kz
  have k5 := M.k5
  refine sA [] rfl ?_
  refine ev_storeAgg tabOk rfl rfl rfl rfl rfl rfl k5 rfl (fun u2 j2 e2 => ?_)
  have M := M.set5 (x' := y1) j2 e2 hle
  clear k5 j2
  have km := M.km
  refine sA [] rfl ?_
  refine ev_store tabOk rfl rfl rfl rfl rfl rfl km rfl (fun u3 j3 e3 => ?_)
  have M := M.setm (cells' := ofC sh (.slice vA V.texts.length vc) (.slice vB V.merges.length vd) r1.v es nilS nilS nilS nilS nilS nilS ls) j3 e3
  clear km j3
  have k5 := M.k5
  have kz := M.kz
  refine sA [] rfl ?_; refine ev_loadAggB rfl rfl tabOk rfl rfl ‹_› (by rfl) ?_; refine sA [] rfl ?_; refine ev_loadB rfl rfl tabOk rfl rfl ‹_› (by rfl) ?_; refine sA [] rfl ?_; refine ev_arith rfl rfl rfl rfl rfl (by simp only [lowK, hiK]; omega) ?_
  refine ev_call rfl rfl rfl (hScR T y1 (sh.ctx * halfS sh) _ M.le hs2 (by omega)) ?_
  rintro r u1 ⟨r2, rfl, qr2, or2, e1⟩
  have M := M.rows (NR.one or2) e1
  have hle := (good_row (sh.ctx * halfS sh)).le T y1 M.le
  obtain ⟨⟨y2, l2⟩, g2⟩ : ∃ zz, zz = rRow (sh.ctx * halfS sh) T y1 := ⟨_, rfl⟩
  rw [← g2] at hle qr2 ⊢
  clear k5 kz
  have k5 := M.k5
  refine sA [] rfl ?_
  refine ev_storeAgg tabOk rfl rfl rfl rfl rfl rfl k5 rfl (fun u2 j2 e2 => ?_)
  have M := M.set5 (x' := y2) j2 e2 hle
  clear k5 j2
  have km := M.km
  refine sA [] rfl ?_
  refine ev_store tabOk rfl rfl rfl rfl rfl rfl km rfl (fun u3 j3 e3 => ?_)
  have M := M.setm (cells' := ofC sh (.slice vA V.texts.length vc) (.slice vB V.merges.length vd) r1.v es r2.v nilS nilS nilS nilS nilS ls) j3 e3
  clear km j3
  have k5 := M.k5
  have kz := M.kz
  refine sA [] rfl ?_; refine ev_loadAggB rfl rfl tabOk rfl rfl ‹_› (by rfl) ?_; refine sA [] rfl ?_; refine ev_loadB rfl rfl tabOk rfl rfl ‹_› (by rfl) ?_; refine sA [] rfl ?_; refine ev_arith rfl rfl rfl rfl rfl (by simp only [lowK, hiK]; omega) ?_
  refine ev_call rfl rfl rfl (hScR T y2 (sh.ctx * halfS sh) _ M.le hs2 (by omega)) ?_
  rintro r u1 ⟨r3, rfl, qr3, or3, e1⟩
  have M := M.rows (NR.one or3) e1
  have hle := (good_row (sh.ctx * halfS sh)).le T y2 M.le
  obtain ⟨⟨y3, l3⟩, g3⟩ : ∃ zz, zz = rRow (sh.ctx * halfS sh) T y2 := ⟨_, rfl⟩
  rw [← g3] at hle qr3 ⊢
  clear k5 kz
  have k5 := M.k5
  refine sA [] rfl ?_
  refine ev_storeAgg tabOk rfl rfl rfl rfl rfl rfl k5 rfl (fun u2 j2 e2 => ?_)
  have M := M.set5 (x' := y3) j2 e2 hle
  clear k5 j2
  have km := M.km
  refine sA [] rfl ?_
  refine ev_store tabOk rfl rfl rfl rfl rfl rfl km rfl (fun u3 j3 e3 => ?_)
  have M := M.setm (cells' := ofC sh (.slice vA V.texts.length vc) (.slice vB V.merges.length vd) r1.v es r2.v r3.v nilS nilS nilS nilS ls) j3 e3
  clear km j3
  have hlay := hok.2.2.2.2.2.2.1
  obtain ⟨nl, hnl⟩ : ∃ nl, nl = sh.lay.toNat := ⟨_, rfl⟩
  have hll : sh.lay = (nl : Nat) := by omega
  have hl8 : nl ≤ 8 := by omega
  obtain ⟨Q0, hQ0⟩ : ∃ Q0, Q0 = [] ++ [r1] ++ [r2] ++ [r3] := ⟨_, rfl⟩
  rw [← hQ0] at M
  have M0 := M
  clear M
  refine sA [] rfl ?_
  refine ev_loop (α := Nat × Value × List (Bk Rw)) (fun z => [(2, ptA pr 0), (4, ptA pn 0), (5, ptA p5 0), (6, ptA pm 0), (8, ptA pz 0), (10, i64 z.1)])
    (fun z w' => z.1 ≤ nl ∧ z.2.2.length = z.1 ∧ z.2.2.map pBk = (rRep (rBlk sh) z.1 T y3).2 ∧ DS w v3 w' pn p5 pm pr pz T sh (rRep (rBlk sh) z.1 T y3).1 (ofC sh (.slice vA V.texts.length vc) (.slice vB V.merges.length vd) r1.v es r2.v r3.v z.2.1 nilS nilS nilS ls) z.2.1 (.slice vB V.merges.length vd) (.slice vA V.texts.length vc) (Q0 ++ z.2.2.flatMap Bk.frs) V z.2.2) (fun z => nl - z.1) (0, nilS, []) ⟨rfl, rfl, rfl, rfl, rfl, rfl, trivial⟩ ⟨Nat.zero_le _, rfl, rfl, by rw [List.flatMap_nil, List.append_nil]; exact M0⟩ ?_
  clear M0
  rintro ⟨k, bv, B⟩ wl ⟨hk, hBl, hBx, M⟩
  have hk : k ≤ nl := hk
  simp only at hBl hBx M
  have hrs := rep_succ (rBlk sh) T y3 k
  obtain ⟨⟨z, PB⟩, hz⟩ : ∃ u, u = rRep (rBlk sh) k T y3 := ⟨_, rfl⟩
  rw [← hz] at M hBx hrs
  simp only at M hBx
  have k5 := M.k5
  have kz := M.kz
  refine sA [] rfl ?_; refine ev_loadB rfl rfl tabOk rfl rfl ‹_› (by rfl) ?_; refine sD [] rfl ?_; refine sD [] rfl ?_
  refine ev_condD rfl (fun c => ?_) (fun c => ?_)
  · have hkn : k < nl := by have c : (k : Int) < sh.lay := c; omega
    refine sA [] rfl ?_; refine ev_loadAggB rfl rfl tabOk rfl rfl ‹_› (by rfl) ?_; refine ev_loadAggB rfl rfl tabOk rfl rfl ‹_› (by rfl) ?_
    refine ev_call rfl rfl rfl (hBlock T z sh wl M.le hs2 hok) ?_
    rintro r u1 ⟨bk, rfl, hbk, hnr, e1⟩
    have M := M.rows hnr e1
    have hle := (good_blk sh).le T z M.le
    obtain ⟨⟨z1, lb⟩, g4⟩ : ∃ zz, zz = rBlk sh T z := ⟨_, rfl⟩
    simp only at hrs
    rw [← g4] at hle hbk hrs ⊢
    clear k5 kz
    refine sA [] rfl ?_
    refine ev_alloc rfl rfl inf149 (fun pa u2 hpa ka f1 => ?_)
    refine ev_alloc rfl rfl inf86 (fun pb u3 hpb kb f2 => ?_)
    have la : pa < u2.heap.size := ka.lt
    have lb' : pb < u3.heap.size := kb.lt
    have hs12 := f1.size
    have hs23 := f2.size
    refine ev_storeAgg tabOk rfl rfl rfl rfl rfl rfl (ka.fr0 f2) rfl (fun u4 ka4 f3 => ?_)
    refine ev_storeAgg tabOk rfl rfl rfl rfl rfl rfl (kb.fr f3 (fun e => by have e : pb = pa := e; omega)) rfl (fun u5 kb5 f4 => ?_)
    have h15 : Fr no u1 u5 := ((f1.tr f2).trans f3 fun z hz e => by have : z = pa := e; omega).trans f4 fun z hz e => by have : z = pb := e; omega
    have ka : Blk u5 pa (scC T z1) 149 := ka4.fr f4 (fun e => by have e : pa = pb := e; omega)
    have kb : Blk u5 pb (bkC bk) 86 := kb5
    have hpb5 : pb ≠ p5 := fun e => by
      have := (M.lt p5 (by simp)).1
      have := M.sz
      omega
    have M := M.fr0 h15
    have k5 := M.k5
    clear ka4 kb5
    refine sA [] rfl ?_; refine ev_loadAggB rfl rfl tabOk rfl rfl ‹_› (by rfl) ?_
    refine ev_storeAgg tabOk rfl rfl rfl rfl rfl rfl k5 rfl (fun u6 j6 e6 => ?_)
    have M := M.set5 (x' := z1) j6 e6 hle
    have kb := kb.fr e6 hpb5
    clear k5 j6 ka
    have km := M.km
    obtain ⟨A3, ca3, rfl, _, _⟩ := M.bk.slice
    refine sA [] rfl ?_; refine ev_loadB rfl rfl tabOk rfl rfl ‹_› (by rfl) ?_; refine ev_loadAggB rfl rfl tabOk rfl rfl ‹_› (by rfl) ?_
    refine ev_append1 (vs := [bkV bk]) tabOk rfl rfl (fun _ => rfl) rfl rfl inf86 rfl (by omega) (fun _ => rfl) rfl rfl (fun v hv => by rw [List.mem_singleton.1 hv]; rfl) (allOne_ok rfl) rfl M.bk (by omega) (fun bv' wo bq hB e4 nB => ?_)
    have hB : Own wo 86 17 bv' (B.length + 1) ((B ++ [bk]).flatMap bkC) := by
      have e : (B ++ [bk]).flatMap bkC = B.flatMap bkC ++ flatV [bkV bk] := by rw [List.flatMap_append]; rfl
      rw [e]; exact hB
    have M := M.setB hB e4 nB
    obtain ⟨A4, ca4, rfl, _, _⟩ := hB.slice
    clear km kb
    have km := M.km
    refine sA [] rfl ?_
    refine ev_store tabOk rfl rfl rfl rfl rfl rfl km rfl (fun wp kp2 e5 => ?_)
    have M := M.setm (cells' := ofC sh (.slice vA V.texts.length vc) (.slice vB V.merges.length vd) r1.v es r2.v r3.v (.slice A4 (B.length + 1) ca4) nilS nilS nilS ls) kp2 e5
    have hfl : (B ++ [bk]).flatMap Bk.frs = B.flatMap Bk.frs ++ bk.frs := by rw [List.flatMap_append]; simp
    rw [List.append_assoc, ← hfl] at M
    clear km kp2
    refine sA [] rfl ?_; refine ev_arith rfl rfl rfl rfl rfl (by simp only [lowK, hiK]; omega) ?_; refine sA [] rfl ?_
    refine ev_next (k + 1, .slice A4 (B.length + 1) ca4, B ++ [bk]) (by show nl - (k + 1) < nl - k; omega) ⟨by show k + 1 ≤ nl; omega, by show (B ++ [bk]).length = k + 1; rw [List.length_append, hBl]; rfl, ?_, ?_⟩ ⟨rfl, rfl, rfl, rfl, rfl, by show _ = some (i64 ((k + 1 : Nat) : Int)); rw [show ((k + 1 : Nat) : Int) = (k : Int) + 1 by omega]; rfl, trivial⟩
    · show (B ++ [bk]).map pBk = (rRep (rBlk sh) (k + 1) T y3).2
      rw [hrs, List.map_append, hBx, ← hbk]; rfl
    · show DS w v3 wp pn p5 pm pr pz T sh (rRep (rBlk sh) (k + 1) T y3).1 _ _ _ _ (Q0 ++ (B ++ [bk]).flatMap Bk.frs) V (B ++ [bk])
      rw [hrs]; exact M
  have hkn : k = nl := by have c : ¬ (k : Int) < sh.lay := c; omega
  subst hkn
  clear hrs c hk
  clear k5 kz
  have k5 := M.k5
  have kz := M.kz
  refine sA [] rfl ?_; refine ev_loadAggB rfl rfl tabOk rfl rfl ‹_› (by rfl) ?_
  refine ev_call rfl rfl rfl (hScR T z (256) _ M.le hs2 (by omega)) ?_
  rintro r u1 ⟨r4, rfl, qr4, or4, e1⟩
  have M := M.rows (NR.one or4) e1
  have hle := (good_row (256)).le T z M.le
  obtain ⟨⟨y4, l4⟩, g8⟩ : ∃ zz, zz = rRow (256) T z := ⟨_, rfl⟩
  rw [← g8] at hle qr4 ⊢
  clear k5 kz
  have k5 := M.k5
  refine sA [] rfl ?_
  refine ev_storeAgg tabOk rfl rfl rfl rfl rfl rfl k5 rfl (fun u2 j2 e2 => ?_)
  have M := M.set5 (x' := y4) j2 e2 hle
  clear k5 j2
  have km := M.km
  refine sA [] rfl ?_
  refine ev_store tabOk rfl rfl rfl rfl rfl rfl km rfl (fun u3 j3 e3 => ?_)
  have M := M.setm (cells' := ofC sh (.slice vA V.texts.length vc) (.slice vB V.merges.length vd) r1.v es r2.v r3.v bv r4.v nilS nilS ls) j3 e3
  clear km j3
  have k5 := M.k5
  have kz := M.kz
  clear k5 kz
  have k5 := M.k5
  have kz := M.kz
  refine sA [] rfl ?_; refine ev_loadAggB rfl rfl tabOk rfl rfl ‹_› (by rfl) ?_; refine sA [] rfl ?_; refine ev_loadB rfl rfl tabOk rfl rfl ‹_› (by rfl) ?_
  refine ev_call rfl rfl rfl (hScR T y4 (sh.dim) _ M.le hs2 (by omega)) ?_
  rintro r u1 ⟨r5, rfl, qr5, or5, e1⟩
  have M := M.rows (NR.one or5) e1
  have hle := (good_row (sh.dim)).le T y4 M.le
  obtain ⟨⟨y5, l5⟩, g9⟩ : ∃ zz, zz = rRow (sh.dim) T y4 := ⟨_, rfl⟩
  rw [← g9] at hle qr5 ⊢
  clear k5 kz
  have k5 := M.k5
  refine sA [] rfl ?_
  refine ev_storeAgg tabOk rfl rfl rfl rfl rfl rfl k5 rfl (fun u2 j2 e2 => ?_)
  have M := M.set5 (x' := y5) j2 e2 hle
  clear k5 j2
  have km := M.km
  refine sA [] rfl ?_
  refine ev_store tabOk rfl rfl rfl rfl rfl rfl km rfl (fun u3 j3 e3 => ?_)
  have M := M.setm (cells' := ofC sh (.slice vA V.texts.length vc) (.slice vB V.merges.length vd) r1.v es r2.v r3.v bv r4.v r5.v nilS ls) j3 e3
  clear km j3
  have k5 := M.k5
  have kz := M.kz
  clear k5 kz
  have k5 := M.k5
  have kz := M.kz
  refine sA [] rfl ?_; refine ev_loadAggB rfl rfl tabOk rfl rfl ‹_› (by rfl) ?_; refine sA [] rfl ?_; refine ev_loadB rfl rfl tabOk rfl rfl ‹_› (by rfl) ?_; refine sA [] rfl ?_; refine ev_loadB rfl rfl tabOk rfl rfl ‹_› (by rfl) ?_; refine ev_arith rfl rfl rfl rfl rfl (by simp only [lowK, hiK]; omega) ?_
  refine ev_call rfl rfl rfl (hScR T y5 (sh.voc * sh.dim) _ M.le hs2 (by omega)) ?_
  rintro r u1 ⟨r6, rfl, qr6, or6, e1⟩
  have M := M.rows (NR.one or6) e1
  have hle := (good_row (sh.voc * sh.dim)).le T y5 M.le
  obtain ⟨⟨y6, l6⟩, g10⟩ : ∃ zz, zz = rRow (sh.voc * sh.dim) T y5 := ⟨_, rfl⟩
  rw [← g10] at hle qr6 ⊢
  clear k5 kz
  have k5 := M.k5
  refine sA [] rfl ?_
  refine ev_storeAgg tabOk rfl rfl rfl rfl rfl rfl k5 rfl (fun u2 j2 e2 => ?_)
  have M := M.set5 (x' := y6) j2 e2 hle
  clear k5 j2
  have km := M.km
  refine sA [] rfl ?_
  refine ev_store tabOk rfl rfl rfl rfl rfl rfl km rfl (fun u3 j3 e3 => ?_)
  have M := M.setm (cells' := ofC sh (.slice vA V.texts.length vc) (.slice vB V.merges.length vd) r1.v es r2.v r3.v bv r4.v r5.v r6.v ls) j3 e3
  clear km j3
  have k5 := M.k5
  have kz := M.kz
  have hbody := rBody_of (h := halfS sh) h7 h8 (V := (rVoc nv T x8).2) (by rw [← hnv]; exact Prod.ext hx9 rfl) g1 g2 g3 (by rw [← hnl]; exact hz) g8 g9 g10
  have hmodE := rMod_eq T ⟨8, 0⟩
  rw [hH] at hmodE
  simp only at hmodE
  rw [hck, hbody] at hmodE
  rw [hbody]
  have kr := M.kr
  have kn := M.kn
  obtain ⟨A3, ca3, rfl, _, _⟩ := M.bk.slice
  obtain ⟨m, hmd⟩ : ∃ m : LM, m = ⟨sh, vA, vc, vB, vd, V, r1, es, r2, r3, A3, ca3, B, r4, r5, r6, ls⟩ := ⟨_, rfl⟩
  have hperm : (Q0 ++ B.flatMap Bk.frs ++ [r4] ++ [r5] ++ [r6]).Perm m.all := by
    rw [hmd, hQ0]
    have p1 : ([r1, r2, r3] ++ (B.flatMap Bk.frs ++ [r4, r5, r6])).Perm ([r1, r2, r3] ++ ([r4, r5, r6] ++ B.flatMap Bk.frs)) := List.Perm.append_left _ List.perm_append_comm
    have p2 := (permM r1 r2 r3 r4 r5 r6 (B.flatMap Bk.frs))
    have p3 : ([r5, r2, r3, r4, r1] ++ B.flatMap Bk.frs ++ [r6]).Perm ([r5, r2, r3, r4, r1] ++ B.flatMap Bk.rows ++ [r6]) := ((frs_perm B).append_left _).append_right _
    have e : [] ++ [r1] ++ [r2] ++ [r3] ++ B.flatMap Bk.frs ++ [r4] ++ [r5] ++ [r6] = [r1, r2, r3] ++ (B.flatMap Bk.frs ++ [r4, r5, r6]) := by simp
    rw [e]
    exact (p1.trans p2).trans p3
  have hOwn : ∀ {w' : World}, Fr (fun c => c = pr) u3 w' → OwnM 134 86 w w' m := fun hf => by
    obtain ⟨o1, o2, o3, o4, o5⟩ := M.out hf
    rw [hmd] at hperm ⊢
    exact OM.own o1 hperm o2 o3 o4 o5 M.ge
  refine sA [] rfl ?_; refine ev_loadB rfl rfl tabOk rfl rfl ‹_› (by rfl) ?_; refine sD [] rfl ?_; refine sD [] rfl ?_
  refine ev_condD rfl (fun ce => ?_) (fun ce => ?_)
  · have he : y6.e ≠ 0 := by simpa using ce
    have hdr : ∀ md : Md, decR T (y6, md) = (zM.p, y6.e) := fun md => by unfold decR; rw [if_neg he]
    rw [hdr]
    refine sA [] rfl ?_
    refine mixC_in (fun w' => Blk w' pn (lmC zM) 56 ∧ Blk w' p5 (scC T y6) 149) mixed (fun v0 g0 => ?_)
    have M := M.fr0 g0
    refine mA rfl (by kernel_rfl) (by kernel_rfl) ?_
    refine m_loadAgg 0 rfl rfl rfl (by kernel_rfl) (by kernel_rfl) rfl rfl tabOk rfl rfl rfl (fun w' h => Cs.of_blk h.1) ?_
    refine m_load 2 rfl rfl rfl (by kernel_rfl) (by kernel_rfl) rfl rfl tabOk rfl rfl (fun w' h => h.2.cell rfl) ?_
    refine mix1 rfl rfl ?_ ⟨M.kn, M.k5⟩
    refine ev_storeAgg tabOk rfl rfl rfl rfl rfl rfl M.kr rfl (fun v1 j1 g1 => ?_)
    obtain ⟨o1, o2, o3, o4, o5⟩ := M.out g1
    obtain ⟨n1, n2, n3, n4, n5, n6, n7, n8⟩ := M.nes
    refine mix_op ?_
    refine mA rfl (by kernel_rfl) (by kernel_rfl) ?_
    refine mix_out rfl ?_ ⟨M.kn.fr g1 n8, M.k5.fr g1 (fun e => n4 e.symm)⟩
    refine sA [] rfl ?_
    exact retG tabOk (.inr rfl) rfl [lmV zM, i64 y6.e] ⟨⟨_, rfl, .inl ⟨rfl, _, rfl, rfl, Cs.of_blk j1⟩⟩, rfl, trivial⟩ ⟨zM, rfl, rfl, zat _, o5⟩
  have he : y6.e = 0 := by simpa using ce
  refine sA [] rfl ?_; refine ev_loadB rfl rfl tabOk rfl rfl ‹_› (by rfl) ?_; refine sA [] rfl ?_; refine ev_loadB rfl rfl tabOk rfl rfl ‹_› (by rfl) ?_; refine sD [] rfl ?_; refine sD [] rfl ?_; refine sD [] rfl ?_
  refine ev_condD rfl (fun ci => ?_) (fun ci => ?_)
  · have hi : y6.i < T.length := by have ci : (y6.i : Int) < (T.length : Int) := ci; omega
    have hdr : ∀ md : Md, decR T (y6, md) = (zM.p, 13) := fun md => by unfold decR; rw [if_pos he, if_pos hi]
    rw [hdr]
    refine sA [] rfl ?_; refine ev_loadAggB rfl rfl tabOk rfl rfl ‹_› (by rfl) ?_
    refine ev_storeAgg tabOk rfl rfl rfl rfl rfl rfl kr rfl (fun v1 j1 g1 => ?_)
    obtain ⟨o1, o2, o3, o4, o5⟩ := M.out g1
    refine sA [] rfl ?_
    exact retG tabOk (.inr rfl) rfl [lmV zM, i64 13] ⟨⟨_, rfl, .inl ⟨rfl, _, rfl, rfl, Cs.of_blk j1⟩⟩, rfl, trivial⟩ ⟨zM, rfl, rfl, zat _, o5⟩
  have hi : ¬ y6.i < T.length := by have ci : ¬ (y6.i : Int) < (T.length : Int) := ci; omega
  have q5 : y5.e = 0 := (good_row (sh.voc * sh.dim)).e0 (t := T) (x := y5) (by rw [← g10]; exact he)
  have q4 : y4.e = 0 := (good_row sh.dim).e0 (t := T) (x := y4) (by rw [← g9]; exact q5)
  have qz : z.e = 0 := (good_row 256).e0 (t := T) (x := z) (by rw [← g8]; exact q4)
  have q3 : y3.e = 0 := (good_rep (good_blk sh) k).e0 (t := T) (x := y3) (by rw [← hz]; exact qz)
  have q2 : y2.e = 0 := (good_row (sh.ctx * halfS sh)).e0 (t := T) (x := y2) (by rw [← g3]; exact q3)
  have q1 : y1.e = 0 := (good_row (sh.ctx * halfS sh)).e0 (t := T) (x := y1) (by rw [← g2]; exact q2)
  have q9 : x9.e = 0 := (good_row (sh.voc * sh.dim)).e0 (t := T) (x := x9) (by rw [← g1]; exact q1)
  have hVe := hV q9
  have hmp : m.p = ⟨sh, (rVoc nv T x8).2, l1, es, l2, l3, PB, l4, l5, l6, ls⟩ := by
    rw [hmd]
    unfold LM.p
    simp only [qr1, qr2, qr3, qr4, qr5, qr6, hBx, ← hVe]
  rw [← hmp] at hmodE ⊢
  have hsq : SmQ m.p := by
    have := has_mod T ⟨8, 0⟩ (by rw [hmodE]; exact he)
    rw [hmodE] at this
    exact this
  have hml := sm_q hsq
  have hO := hOwn (Fr.refl _ u3)
  have hcell : ofC sh (.slice vA V.texts.length vc) (.slice vB V.merges.length vd) r1.v es r2.v r3.v (.slice A3 B.length ca3) r4.v r5.v r6.v ls = lmC m := by rw [hmd]
  have km := M.km
  rw [hcell] at km M
  refine sA [] rfl ?_; refine ev_loadAggB rfl rfl tabOk rfl rfl ‹_› (by rfl) ?_
  refine ev_call rfl rfl rfl (refValid m _ hO.At hml hO.cap) ?_
  rintro r u4 ⟨rfl, e4⟩
  have M := M.fr0 e4
  have hOwn : ∀ {w' : World}, Fr (fun c => c = pr) u4 w' → OwnM 134 86 w w' m := fun hf => hOwn ((e4.mono fun _ _ z => z.elim).trans hf fun _ _ e => e)
  clear km kr kn
  have km := M.km
  have kr := M.kr
  have kn := M.kn
  unfold decR
  rw [if_pos he, if_neg hi]
  simp only
  obtain ⟨a, ha⟩ : ∃ a, a = validQ m.p := ⟨_, rfl⟩
  rw [← ha]
  refine sC [] rfl ?_; refine sC [] rfl ?_; refine sC [] rfl ?_; refine sD [] rfl ?_
  refine ev_condD rfl (fun c4 => ?_) (fun c4 => ?_)
  · have hv : ¬ a.2.2 = 0 := by simpa using c4
    rw [if_neg hv]
    refine sA [] rfl ?_; refine ev_loadAggB rfl rfl tabOk rfl rfl ‹_› (by rfl) ?_; refine sA [] rfl ?_
    refine ev_storeAgg tabOk rfl rfl rfl rfl rfl rfl kr rfl (fun v1 j1 g1 => ?_)
    have hO := hOwn g1
    refine sA [] rfl ?_
    exact retG tabOk (.inr rfl) rfl [lmV zM, i64 a.2.2] ⟨⟨_, rfl, .inl ⟨rfl, _, rfl, rfl, Cs.of_blk j1⟩⟩, rfl, trivial⟩ ⟨zM, rfl, rfl, zat _, hO.fr⟩
  · have hv : a.2.2 = 0 := by simpa using c4
    rw [if_pos hv]
    refine sA [] rfl ?_; refine ev_loadAggB rfl rfl tabOk rfl rfl ‹_› (by rfl) ?_
    refine ev_storeAgg tabOk rfl rfl rfl rfl rfl rfl kr rfl (fun v1 j1 g1 => ?_)
    have hO := hOwn g1
    refine sA [] rfl ?_
    exact retG tabOk (.inr rfl) rfl [lmV m, i64 0] ⟨⟨_, rfl, .inl ⟨rfl, _, rfl, rfl, Cs.of_blk j1⟩⟩, rfl, trivial⟩ ⟨m, rfl, rfl, hO.At, hO.fr⟩
end Go.Wk.YtdelgnflcfhhkaaGreatDoor
