/-
  Chapter 17: the document's readers of a file: the walks.
-/
import Derived.Test.YtdelgnflcfhhkaaGreatDoorFlM
import Derived.Test.YtdelgnflcfhhkaaGreatDoorPWb
set_option linter.unusedVariables false
namespace Go.Wk.YtdelgnflcfhhkaaGreatDoor
open Go Go.Wk Go.Proofs

abbrev scC (T : List UInt8) (x : Sc) : List Value := [.string (sOf T), i64 x.i, i64 x.e]
abbrev scV (T : List UInt8) (x : Sc) : Value := .agg ⟨scC T x⟩
theorem hScN (T : List UInt8) (x : Sc) (b : Int) (w : World) (hi : x.i ≤ T.length) (hT : T.length ≤ 140737488355232) :
    CallsF Tryz.prog 56 [scV T x, i64 b] w fun v w' => v = .tuple #[scV T (rNum b T x).1, i64 (rNum b T x).2] ∧ Fr no w w' := by
  unfold rNum
  refine callsF Tryz.func56 rfl rfl (by decide) rfl ?_
  refine sA [] rfl ?_
  refine ev_box rfl rfl rfl fun p w1 hp kp f1 => ?_
  have kp : Blk w1 p (scC T x) 149 := kp
  refine ev_alloc rfl rfl inf149 (fun pr w2 hpr kr f2 => ?_)
  have kp2 := kp.fr0 f2
  have hF2 := f1.tr f2
  have hprw : w.heap.size ≤ pr := Nat.le_trans f1.size hpr
  clear kp
  refine sA [] rfl ?_; refine ev_loadB rfl rfl tabOk rfl rfl ‹_› (by rfl) ?_; refine sD [] rfl ?_; refine sD [] rfl ?_
  refine ev_condD rfl (fun c => ?_) (fun c => ?_)
  · rw [if_neg (show ¬ x.e = 0 by simpa using c)]
    refine sA [] rfl ?_; refine ev_loadAggB rfl rfl tabOk rfl rfl ‹_› (by rfl) ?_
    refine ev_storeAgg tabOk rfl rfl rfl rfl rfl rfl kr rfl (fun w3 k3 f3 => ?_)
    refine sA [] rfl ?_
    exact retG tabOk (.inr rfl) rfl [scV T x, i64 0] ⟨⟨_, rfl, .inl ⟨rfl, _, rfl, rfl, Cs.of_blk k3⟩⟩, rfl, trivial⟩ ⟨rfl, hF2.trans f3 fun z hz e => by have : z = pr := e; omega⟩
  · rw [if_pos (show x.e = 0 by simpa using c)]
    have hrd : Cs w2 (some ⟨p, 0 + 0, none⟩) [.string (sOf T), i64 x.i] := (Cs.of_blk kp2).part 0 fun j u hj => by
      match j, hj with
      | 0, h => exact h
      | 1, h => exact h
      | n + 2, h => simp at h
    refine sA [] rfl ?_
    refine ev_loadAgg rfl rfl tabOk rfl rfl rfl hrd ?_
    refine sA [] rfl ?_
    refine ev_call rfl rfl rfl (refReadNumber T x.i b w2 hi hT) ?_
    rintro r w3 ⟨rfl, f3⟩
    have kr3 := kr.fr0 f3
    refine sA [] rfl ?_
    refine ev_alloc rfl rfl inf147 (fun pd w4 hpd kd f4 => ?_)
    refine ev_storeAgg tabOk rfl rfl rfl rfl rfl rfl kd rfl (fun w5 kd f5 => ?_)
    have h35 : Fr no w3 w5 := f4.trans f5 fun z hz e => by have : z = pd := e; omega
    have kd : Blk w5 pd [.string (sOf T), i64 (rnA T x.i b)] 147 := kd
    have kr5 := kr3.fr0 h35
    refine sA [] rfl ?_; refine ev_loadAggB rfl rfl tabOk rfl rfl ‹_› (by rfl) ?_; refine sA [] rfl ?_
    refine ev_build rfl rfl (v := scV T ⟨rnA T x.i b, rnE T x.i b⟩) rfl (fun w => by kernel_rfl) ?_
    refine sA [] rfl ?_
    refine ev_storeAgg tabOk rfl rfl rfl rfl rfl rfl kr5 rfl (fun w6 k6 f6 => ?_)
    refine sA [] rfl ?_
    exact retG tabOk (.inr rfl) rfl [scV T ⟨rnA T x.i b, rnE T x.i b⟩, i64 (rnV T x.i b)] ⟨⟨_, rfl, .inl ⟨rfl, _, rfl, rfl, Cs.of_blk k6⟩⟩, rfl, trivial⟩ ⟨rfl, ((hF2.tr f3).tr h35).trans f6 fun z hz e => by have : z = pr := e; omega⟩
theorem hScR (T : List UInt8) (x : Sc) (b : Int) (w : World) (hi : x.i ≤ T.length) (hT : T.length ≤ 140737488355232) (hb : b ≤ 10000000000000) :
    CallsF Tryz.prog 58 [scV T x, i64 b] w fun v w' => ∃ r : Rw, v = .tuple #[scV T (rRow b T x).1, r.v] ∧ r.xs = (rRow b T x).2 ∧ OR w w' r ∧ Fr no w w' := by
  unfold rRow
  refine callsF Tryz.func58 rfl rfl (by decide) rfl ?_
  refine sA [] rfl ?_
  refine ev_box rfl rfl rfl fun p w1 hp kp f1 => ?_
  have kp : Blk w1 p (scC T x) 149 := kp
  refine ev_alloc rfl rfl inf149 (fun pr w2 hpr kr f2 => ?_)
  have kp2 := kp.fr0 f2
  have hF2 := f1.tr f2
  have hprw : w.heap.size ≤ pr := Nat.le_trans f1.size hpr
  have hprl : pr < w2.heap.size := kr.lt
  clear kp
  refine sA [] rfl ?_; refine ev_loadB rfl rfl tabOk rfl rfl ‹_› (by rfl) ?_; refine sD [] rfl ?_; refine sD [] rfl ?_
  refine ev_condD rfl (fun c => ?_) (fun c => ?_)
  · rw [if_neg (show ¬ x.e = 0 by simpa using c)]
    refine sA [] rfl ?_; refine ev_loadAggB rfl rfl tabOk rfl rfl ‹_› (by rfl) ?_
    refine ev_buildSlice tabOk rfl rfl rfl inf177 rfl rfl rfl (fun _ h => by cases h) rfl (fun d wd hd hdb fd => ?_)
    have hdb : R8 wd d [] := hdb
    have kr3 := kr.fr0 fd
    skip
    refine ev_storeAgg tabOk rfl rfl rfl rfl rfl rfl kr3 rfl (fun w3 k3 f3 => ?_)
    have hR : OR w w3 ⟨some ⟨d, 0, none⟩, 0, []⟩ := (OR.of (w0 := w) (xs := []) hdb (Nat.le_trans hF2.size hd) (Nat.zero_le _)).fr f3 (fun g hg e => by
      have hg : some d = some g := hg
      cases hg
      have e : d = pr := e
      omega)
    refine sA [] rfl ?_
    exact retG tabOk (.inr rfl) rfl [scV T x, .slice (some ⟨d, 0, none⟩) 0 0] ⟨⟨_, rfl, .inl ⟨rfl, _, rfl, rfl, Cs.of_blk k3⟩⟩, rfl, trivial⟩ ⟨⟨some ⟨d, 0, none⟩, 0, []⟩, rfl, rfl, hR, (hF2.tr fd).trans f3 fun z hz e => by have : z = pr := e; omega⟩
  · rw [if_pos (show x.e = 0 by simpa using c)]
    have hrd : Cs w2 (some ⟨p, 0 + 0, none⟩) [.string (sOf T), i64 x.i] := (Cs.of_blk kp2).part 0 fun j u hj => by
      match j, hj with
      | 0, h => exact h
      | 1, h => exact h
      | n + 2, h => simp at h
    refine sA [] rfl ?_
    refine ev_loadAgg rfl rfl tabOk rfl rfl rfl hrd ?_
    refine sA [] rfl ?_
    refine ev_call rfl rfl rfl (refReadRow T x.i b w2 hi hT hb) ?_
    rintro r w3 ⟨y, rfl, hy, hg, f3⟩
    have kr3 := kr.fr0 f3
    obtain ⟨A, ca, rfl, _, _⟩ := hy.slice
    refine sA [] rfl ?_
    refine ev_alloc rfl rfl inf147 (fun pd w4 hpd kd f4 => ?_)
    refine ev_storeAgg tabOk rfl rfl rfl rfl rfl rfl kd rfl (fun w5 kd f5 => ?_)
    have h35 : Fr no w3 w5 := f4.trans f5 fun z hz e => by have : z = pd := e; omega
    have kd : Blk w5 pd [.string (sOf T), i64 (rrA T x.i b)] 147 := kd
    have kr5 := kr3.fr0 h35
    have hy5 := hy.fr0 h35
    refine sA [] rfl ?_; refine ev_loadAggB rfl rfl tabOk rfl rfl ‹_› (by rfl) ?_; refine sA [] rfl ?_
    refine ev_build rfl rfl (v := scV T ⟨rrA T x.i b, rrE T x.i b⟩) rfl (fun w => by kernel_rfl) ?_
    refine sA [] rfl ?_
    refine ev_storeAgg tabOk rfl rfl rfl rfl rfl rfl kr5 rfl (fun w6 k6 f6 => ?_)
    have hy6 := hy5.fr f6 (fun g hg' e => by have := hg g hg'; have e : g = pr := e; omega)
    refine sA [] rfl ?_
    refine retG tabOk (.inr rfl) rfl [scV T ⟨rrA T x.i b, rrE T x.i b⟩, .slice A (rrV T x.i b).length ca] ⟨⟨_, rfl, .inl ⟨rfl, _, rfl, rfl, Cs.of_blk k6⟩⟩, rfl, trivial⟩ ⟨⟨A, ca, (rrV T x.i b).map UInt8.toInt8⟩, ?_, rfl, ⟨?_, ?_⟩, ((hF2.tr f3).tr h35).trans f6 fun z hz e => by have : z = pr := e; omega⟩
    · show _ = Value.tuple #[_, .slice A _ ca]
      rw [List.length_map]
      rfl
    · show Own w6 _ 1 (.slice A _ ca) _ _
      rw [List.length_map, List.map_map]
      exact hy6
    · intro g hg'
      have hg' : (Value.slice A (List.map UInt8.toInt8 (rrV T x.i b)).length ca).ownBlock = some g := hg'
      rw [List.length_map] at hg'
      exact Nat.le_trans hF2.size (hg g hg')
/-- a block that is being read: the reader, the block, its middle, its rows -/
structure BS (w5 w : World) (p2 pb pm : Nat) (T : List UInt8) (x : Sc) (cb cm : List Value) (Q : List Rw) : Prop where
  k2 : Blk w p2 (scC T x) 149
  kb : Blk w pb cb 86
  km : Blk w pm cm 84
  nr : NR w5 w Q
  fr : Fr (fun c => c = p2 ∨ c = pb ∨ c = pm) w5 w
  lt : p2 < w5.heap.size ∧ pb < w5.heap.size ∧ pm < w5.heap.size
  ne : p2 ≠ pb ∧ p2 ≠ pm ∧ pb ≠ pm
  le : x.i ≤ T.length
section
variable {w5 w w' : World} {p2 pb pm : Nat} {T : List UInt8} {x x' : Sc} {cb cm c' : List Value} {Q : List Rw}
theorem BS.fr0 (h : BS w5 w p2 pb pm T x cb cm Q) (hf : Fr no w w') : BS w5 w' p2 pb pm T x cb cm Q :=
  ⟨h.k2.fr0 hf, h.kb.fr0 hf, h.km.fr0 hf, h.nr.fr0 hf, h.fr.trans hf fun _ _ z => z.elim, h.lt, h.ne, h.le⟩
theorem BS.set2 (h : BS w5 w p2 pb pm T x cb cm Q) (hk : Blk w' p2 (scC T x') 149) (hf : Fr (fun c => c = p2) w w') (hl : x'.i ≤ T.length) : BS w5 w' p2 pb pm T x' cb cm Q :=
  ⟨hk, h.kb.fr hf (fun e => h.ne.1 e.symm), h.km.fr hf (fun e => h.ne.2.1 e.symm), h.nr.fr hf (h.nr.ge h.lt.1), h.fr.trans hf fun z _ e => .inl e, h.lt, h.ne, hl⟩
theorem BS.setb (h : BS w5 w p2 pb pm T x cb cm Q) (hk : Blk w' pb c' 86) (hf : Fr (fun c => c = pb) w w') : BS w5 w' p2 pb pm T x c' cm Q :=
  ⟨h.k2.fr hf h.ne.1, hk, h.km.fr hf (fun e => h.ne.2.2 e.symm), h.nr.fr hf (h.nr.ge h.lt.2.1), h.fr.trans hf fun z _ e => .inr (.inl e), h.lt, h.ne, h.le⟩
theorem BS.setm (h : BS w5 w p2 pb pm T x cb cm Q) (hk : Blk w' pm c' 84) (hf : Fr (fun c => c = pm) w w') : BS w5 w' p2 pb pm T x cb c' Q :=
  ⟨h.k2.fr hf h.ne.2.1, h.kb.fr hf h.ne.2.2, hk, h.nr.fr hf (h.nr.ge h.lt.2.2), h.fr.trans hf fun z _ e => .inr (.inr e), h.lt, h.ne, h.le⟩
theorem BS.row (h : BS w5 w p2 pb pm T x cb cm Q) {r : Rw} (hr : OR w w' r) (hf : Fr no w w') : BS w5 w' p2 pb pm T x cb cm (Q ++ [r]) :=
  ⟨h.k2.fr0 hf, h.kb.fr0 hf, h.km.fr0 hf, h.nr.add hr hf h.fr.size, h.fr.trans hf fun _ _ z => z.elim, h.lt, h.ne, h.le⟩
end
set_option maxHeartbeats 16000000 in
theorem hBlock (T : List UInt8) (x : Sc) (s : Shp) (w : World) (hi : x.i ≤ T.length) (hT : T.length ≤ 140737488355232) (hs : okS s) :
    CallsF Tryz.prog 59 [scV T x, shpV s] w fun v w' => ∃ b : Bk Rw, v = .tuple #[scV T (rBlk s T x).1, bkV b] ∧ pBk b = (rBlk s T x).2 ∧ NR w w' b.frs ∧ Fr no w w' := by
  obtain ⟨d1, d2⟩ := hs.2.2.1
  have hid := hs.2.2.2.2.2.2.2
  have hm1 := mul_bd (a := s.dim) (b := s.dim) (m := 64) (k := 64) (by omega) (by omega) (by omega) (by omega)
  have hm2 := mul_bd (a := s.hid) (b := s.dim) (m := 256) (k := 64) (by omega) (by omega) (by omega) (by omega)
  have hm3 : s.dim * s.hid = s.hid * s.dim := Int.mul_comm _ _
  refine callsF Tryz.func59 rfl rfl (by decide) rfl ?_
  refine sA [] rfl ?_
  refine ev_box rfl rfl rfl fun p2 w1 hp2 k2 f1 => ?_
  have k2 : Blk w1 p2 (scC T x) 149 := k2
  refine ev_box rfl rfl rfl fun p3 w2 hp3 k3 f2 => ?_
  have k3 : Blk w2 p3 (shpC s) 50 := k3
  refine ev_alloc rfl rfl inf149 (fun p4 w3 hp4 k4 f3 => ?_)
  refine ev_alloc rfl rfl inf86 (fun p5 w4 hp5 k5 f4 => ?_)
  have hp2l : p2 < w1.heap.size := k2.lt
  have hp3l : p3 < w2.heap.size := k3.lt
  have hp4l : p4 < w3.heap.size := k4.lt
  have hp5l : p5 < w4.heap.size := k5.lt
  have k2 := ((k2.fr0 f2).fr0 f3).fr0 f4
  have k3 := (k3.fr0 f3).fr0 f4
  have k4 := k4.fr0 f4
  have hF4 := ((f1.tr f2).tr f3).tr f4
  refine sA [] rfl ?_
  refine ev_build rfl rfl (v := bkV ⟨zB, zB, zB, zB, zB, zB, 0, 0, 0, 0, 0, zB, zB, zB, 0, 0, 0⟩) rfl (fun w => by kernel_rfl) ?_
  refine ev_build rfl rfl (v := .agg ⟨[nilS, nilS, nilS, i64 0, i64 0, i64 0]⟩) rfl (fun w => by kernel_rfl) ?_
  refine ev_alloc rfl rfl inf86 (fun pb w5 hpb kb f5 => ?_)
  refine ev_alloc rfl rfl inf84 (fun pm w6 hpm km f6 => ?_)
  have hpbl : pb < w5.heap.size := kb.lt
  have hpml : pm < w6.heap.size := km.lt
  refine ev_storeAgg tabOk rfl rfl rfl rfl rfl rfl (kb.fr0 f6) rfl (fun w7 kb f7 => ?_)
  refine ev_storeAgg tabOk rfl rfl rfl rfl rfl rfl (km.fr f7 (fun e => by have e : pm = pb := e; omega)) rfl (fun w8 km f8 => ?_)
  have kb : Blk w7 pb (bkC ⟨zB, zB, zB, zB, zB, zB, 0, 0, 0, 0, 0, zB, zB, zB, 0, 0, 0⟩) 86 := kb
  have km : Blk w8 pm [nilS, nilS, nilS, i64 0, i64 0, i64 0] 84 := km
  have s6 := f6.size
  have s5 := f5.size
  have s4 := f4.size
  have s3 := f3.size
  have s2 := f2.size
  have s7 := f7.size
  have s8 := f8.size
  have s1 := f1.size
  have h48 : Fr no w4 w8 := ((f5.tr f6).trans f7 fun z hz e => by have : z = pb := e; omega).trans f8 fun z hz e => by have : z = pm := e; omega
  have M : BS w8 w8 p2 pb pm T x (bkC ⟨zB, zB, zB, zB, zB, zB, 0, 0, 0, 0, 0, zB, zB, zB, 0, 0, 0⟩) [nilS, nilS, nilS, i64 0, i64 0, i64 0] [] :=
    ⟨k2.fr0 h48, kb.fr f8 (fun e => by have e : pb = pm := e; omega), km, NR.nil _ _, Fr.refl _ _, ⟨by omega, by omega, by omega⟩, ⟨fun e => by omega, fun e => by omega, fun e => by omega⟩, hi⟩
  have k3 := k3.fr0 h48
  have k4 := k4.fr0 h48
  have k5 := k5.fr0 h48
  have hF8 := hF4.tr h48
  clear k2 kb km
  have hpw2 : w.heap.size ≤ p2 := hp2
  have hpwb : w.heap.size ≤ pb := by omega
  have hpwm : w.heap.size ≤ pm := by omega
  refine sA [] rfl ?_
  refine ev_draw mixed (by kernel_rfl) ?_
  refine qA rfl ?_; refine q_loadB rfl rfl tabOk rfl rfl ‹_› (by rfl) ?_; refine qA rfl ?_; refine q_loadB rfl rfl tabOk rfl rfl ‹_› (by rfl) ?_; refine qA rfl ?_
  refine q_end fun wa fa => ?_
  have M := M.fr0 fa
  have k4 := k4.fr0 fa
  have k5 := k5.fr0 fa
  have hS9 : w8.heap.size ≤ wa.heap.size := fa.size
  have k2 := M.k2
  have kb := M.kb
  have km := M.km
  refine sA [] rfl ?_; refine ev_loadAggB rfl rfl tabOk rfl rfl ‹_› (by rfl) ?_
  refine ev_call rfl rfl rfl (hScN T x 1 _ M.le (by omega)) ?_
  rintro r u1 ⟨rfl, e1⟩
  have M := M.fr0 e1
  have k4 := k4.fr0 e1
  have k5 := k5.fr0 e1
  have hle := (good_num 1).le T x M.le
  obtain ⟨⟨x1, n0⟩, hh0⟩ : ∃ zz, zz = rNum 1 T x := ⟨_, rfl⟩
  rw [← hh0] at hle ⊢
  clear k2 kb km
  have k2 := M.k2
  have kb := M.kb
  have km := M.km
  refine sA [] rfl ?_
  refine ev_storeAgg tabOk rfl rfl rfl rfl rfl rfl k2 rfl (fun u2 j2 e2 => ?_)
  have M := M.set2 (x' := x1) j2 e2 hle
  have k4 := k4.fr e2 (fun e => by have e : p4 = p2 := e; omega)
  have k5 := k5.fr e2 (fun e => by have e : p5 = p2 := e; omega)
  have k2 := M.k2
  have kb := M.kb
  have km := M.km
  refine sA [] rfl ?_
  refine ev_store tabOk rfl rfl rfl rfl rfl rfl kb rfl (fun u3 j3 e3 => ?_)
  have M := M.setb (c' := bkC ⟨zB, zB, zB, zB, zB, zB, n0, 0, 0, 0, 0, zB, zB, zB, 0, 0, 0⟩) j3 e3
  have k4 := k4.fr e3 (fun e => by have e : p4 = pb := e; omega)
  have k5 := k5.fr e3 (fun e => by have e : p5 = pb := e; omega)
  clear k2 kb km
  have k2 := M.k2
  have kb := M.kb
  have km := M.km
  refine sA [] rfl ?_; refine ev_loadAggB rfl rfl tabOk rfl rfl ‹_› (by rfl) ?_
  refine ev_call rfl rfl rfl (hScN T x1 1 _ M.le (by omega)) ?_
  rintro r u1 ⟨rfl, e1⟩
  have M := M.fr0 e1
  have k4 := k4.fr0 e1
  have k5 := k5.fr0 e1
  have hle := (good_num 1).le T x1 M.le
  obtain ⟨⟨x2, n1⟩, hh1⟩ : ∃ zz, zz = rNum 1 T x1 := ⟨_, rfl⟩
  rw [← hh1] at hle ⊢
  clear k2 kb km
  have k2 := M.k2
  have kb := M.kb
  have km := M.km
  refine sA [] rfl ?_
  refine ev_storeAgg tabOk rfl rfl rfl rfl rfl rfl k2 rfl (fun u2 j2 e2 => ?_)
  have M := M.set2 (x' := x2) j2 e2 hle
  have k4 := k4.fr e2 (fun e => by have e : p4 = p2 := e; omega)
  have k5 := k5.fr e2 (fun e => by have e : p5 = p2 := e; omega)
  have k2 := M.k2
  have kb := M.kb
  have km := M.km
  refine sA [] rfl ?_
  refine ev_store tabOk rfl rfl rfl rfl rfl rfl kb rfl (fun u3 j3 e3 => ?_)
  have M := M.setb (c' := bkC ⟨zB, zB, zB, zB, zB, zB, n0, n1, 0, 0, 0, zB, zB, zB, 0, 0, 0⟩) j3 e3
  have k4 := k4.fr e3 (fun e => by have e : p4 = pb := e; omega)
  have k5 := k5.fr e3 (fun e => by have e : p5 = pb := e; omega)
  clear k2 kb km
  have k2 := M.k2
  have kb := M.kb
  have km := M.km
  refine sA [] rfl ?_; refine ev_loadAggB rfl rfl tabOk rfl rfl ‹_› (by rfl) ?_
  refine ev_call rfl rfl rfl (hScN T x2 1 _ M.le (by omega)) ?_
  rintro r u1 ⟨rfl, e1⟩
  have M := M.fr0 e1
  have k4 := k4.fr0 e1
  have k5 := k5.fr0 e1
  have hle := (good_num 1).le T x2 M.le
  obtain ⟨⟨x3, n2⟩, hh2⟩ : ∃ zz, zz = rNum 1 T x2 := ⟨_, rfl⟩
  rw [← hh2] at hle ⊢
  clear k2 kb km
  have k2 := M.k2
  have kb := M.kb
  have km := M.km
  refine sA [] rfl ?_
  refine ev_storeAgg tabOk rfl rfl rfl rfl rfl rfl k2 rfl (fun u2 j2 e2 => ?_)
  have M := M.set2 (x' := x3) j2 e2 hle
  have k4 := k4.fr e2 (fun e => by have e : p4 = p2 := e; omega)
  have k5 := k5.fr e2 (fun e => by have e : p5 = p2 := e; omega)
  have k2 := M.k2
  have kb := M.kb
  have km := M.km
  refine sA [] rfl ?_
  refine ev_store tabOk rfl rfl rfl rfl rfl rfl kb rfl (fun u3 j3 e3 => ?_)
  have M := M.setb (c' := bkC ⟨zB, zB, zB, zB, zB, zB, n0, n1, n2, 0, 0, zB, zB, zB, 0, 0, 0⟩) j3 e3
  have k4 := k4.fr e3 (fun e => by have e : p4 = pb := e; omega)
  have k5 := k5.fr e3 (fun e => by have e : p5 = pb := e; omega)
  clear k2 kb km
  have k2 := M.k2
  have kb := M.kb
  have km := M.km
  refine sA [] rfl ?_; refine ev_loadAggB rfl rfl tabOk rfl rfl ‹_› (by rfl) ?_
  refine ev_call rfl rfl rfl (hScN T x3 1 _ M.le (by omega)) ?_
  rintro r u1 ⟨rfl, e1⟩
  have M := M.fr0 e1
  have k4 := k4.fr0 e1
  have k5 := k5.fr0 e1
  have hle := (good_num 1).le T x3 M.le
  obtain ⟨⟨x4, n3⟩, hh3⟩ : ∃ zz, zz = rNum 1 T x3 := ⟨_, rfl⟩
  rw [← hh3] at hle ⊢
  clear k2 kb km
  have k2 := M.k2
  have kb := M.kb
  have km := M.km
  refine sA [] rfl ?_
  refine ev_storeAgg tabOk rfl rfl rfl rfl rfl rfl k2 rfl (fun u2 j2 e2 => ?_)
  have M := M.set2 (x' := x4) j2 e2 hle
  have k4 := k4.fr e2 (fun e => by have e : p4 = p2 := e; omega)
  have k5 := k5.fr e2 (fun e => by have e : p5 = p2 := e; omega)
  have k2 := M.k2
  have kb := M.kb
  have km := M.km
  refine sA [] rfl ?_
  refine ev_store tabOk rfl rfl rfl rfl rfl rfl kb rfl (fun u3 j3 e3 => ?_)
  have M := M.setb (c' := bkC ⟨zB, zB, zB, zB, zB, zB, n0, n1, n2, n3, 0, zB, zB, zB, 0, 0, 0⟩) j3 e3
  have k4 := k4.fr e3 (fun e => by have e : p4 = pb := e; omega)
  have k5 := k5.fr e3 (fun e => by have e : p5 = pb := e; omega)
  clear k2 kb km
  have k2 := M.k2
  have kb := M.kb
  have km := M.km
  refine sA [] rfl ?_; refine ev_loadAggB rfl rfl tabOk rfl rfl ‹_› (by rfl) ?_
  refine ev_call rfl rfl rfl (hScN T x4 1 _ M.le (by omega)) ?_
  rintro r u1 ⟨rfl, e1⟩
  have M := M.fr0 e1
  have k4 := k4.fr0 e1
  have k5 := k5.fr0 e1
  have hle := (good_num 1).le T x4 M.le
  obtain ⟨⟨x5, n4⟩, hh4⟩ : ∃ zz, zz = rNum 1 T x4 := ⟨_, rfl⟩
  rw [← hh4] at hle ⊢
  clear k2 kb km
  have k2 := M.k2
  have kb := M.kb
  have km := M.km
  refine sA [] rfl ?_
  refine ev_storeAgg tabOk rfl rfl rfl rfl rfl rfl k2 rfl (fun u2 j2 e2 => ?_)
  have M := M.set2 (x' := x5) j2 e2 hle
  have k4 := k4.fr e2 (fun e => by have e : p4 = p2 := e; omega)
  have k5 := k5.fr e2 (fun e => by have e : p5 = p2 := e; omega)
  have k2 := M.k2
  have kb := M.kb
  have km := M.km
  refine sA [] rfl ?_
  refine ev_store tabOk rfl rfl rfl rfl rfl rfl kb rfl (fun u3 j3 e3 => ?_)
  have M := M.setb (c' := bkC ⟨zB, zB, zB, zB, zB, zB, n0, n1, n2, n3, n4, zB, zB, zB, 0, 0, 0⟩) j3 e3
  have k4 := k4.fr e3 (fun e => by have e : p4 = pb := e; omega)
  have k5 := k5.fr e3 (fun e => by have e : p5 = pb := e; omega)
  clear k2 kb km
  have k2 := M.k2
  have kb := M.kb
  have km := M.km
  refine sA [] rfl ?_; refine ev_loadAggB rfl rfl tabOk rfl rfl ‹_› (by rfl) ?_
  refine ev_call rfl rfl rfl (hScN T x5 1 _ M.le (by omega)) ?_
  rintro r u1 ⟨rfl, e1⟩
  have M := M.fr0 e1
  have k4 := k4.fr0 e1
  have k5 := k5.fr0 e1
  have hle := (good_num 1).le T x5 M.le
  obtain ⟨⟨x6, n5⟩, hh5⟩ : ∃ zz, zz = rNum 1 T x5 := ⟨_, rfl⟩
  rw [← hh5] at hle ⊢
  clear k2 kb km
  have k2 := M.k2
  have kb := M.kb
  have km := M.km
  refine sA [] rfl ?_
  refine ev_storeAgg tabOk rfl rfl rfl rfl rfl rfl k2 rfl (fun u2 j2 e2 => ?_)
  have M := M.set2 (x' := x6) j2 e2 hle
  have k4 := k4.fr e2 (fun e => by have e : p4 = p2 := e; omega)
  have k5 := k5.fr e2 (fun e => by have e : p5 = p2 := e; omega)
  have k2 := M.k2
  have kb := M.kb
  have km := M.km
  refine sA [] rfl ?_
  refine ev_store tabOk rfl rfl rfl rfl rfl rfl km rfl (fun u3 j3 e3 => ?_)
  have M := M.setm (c' := [nilS, nilS, nilS, i64 n5, i64 0, i64 0]) j3 e3
  have k4 := k4.fr e3 (fun e => by have e : p4 = pm := e; omega)
  have k5 := k5.fr e3 (fun e => by have e : p5 = pm := e; omega)
  clear k2 kb km
  have k2 := M.k2
  have kb := M.kb
  have km := M.km
  refine sA [] rfl ?_; refine ev_loadAggB rfl rfl tabOk rfl rfl ‹_› (by rfl) ?_
  refine ev_call rfl rfl rfl (hScN T x6 1 _ M.le (by omega)) ?_
  rintro r u1 ⟨rfl, e1⟩
  have M := M.fr0 e1
  have k4 := k4.fr0 e1
  have k5 := k5.fr0 e1
  have hle := (good_num 1).le T x6 M.le
  obtain ⟨⟨x7, n6⟩, hh6⟩ : ∃ zz, zz = rNum 1 T x6 := ⟨_, rfl⟩
  rw [← hh6] at hle ⊢
  clear k2 kb km
  have k2 := M.k2
  have kb := M.kb
  have km := M.km
  refine sA [] rfl ?_
  refine ev_storeAgg tabOk rfl rfl rfl rfl rfl rfl k2 rfl (fun u2 j2 e2 => ?_)
  have M := M.set2 (x' := x7) j2 e2 hle
  have k4 := k4.fr e2 (fun e => by have e : p4 = p2 := e; omega)
  have k5 := k5.fr e2 (fun e => by have e : p5 = p2 := e; omega)
  have k2 := M.k2
  have kb := M.kb
  have km := M.km
  refine sA [] rfl ?_
  refine ev_store tabOk rfl rfl rfl rfl rfl rfl km rfl (fun u3 j3 e3 => ?_)
  have M := M.setm (c' := [nilS, nilS, nilS, i64 n5, i64 n6, i64 0]) j3 e3
  have k4 := k4.fr e3 (fun e => by have e : p4 = pm := e; omega)
  have k5 := k5.fr e3 (fun e => by have e : p5 = pm := e; omega)
  clear k2 kb km
  have k2 := M.k2
  have kb := M.kb
  have km := M.km
  refine sA [] rfl ?_; refine ev_loadAggB rfl rfl tabOk rfl rfl ‹_› (by rfl) ?_
  refine ev_call rfl rfl rfl (hScN T x7 1 _ M.le (by omega)) ?_
  rintro r u1 ⟨rfl, e1⟩
  have M := M.fr0 e1
  have k4 := k4.fr0 e1
  have k5 := k5.fr0 e1
  have hle := (good_num 1).le T x7 M.le
  obtain ⟨⟨x8, n7⟩, hh7⟩ : ∃ zz, zz = rNum 1 T x7 := ⟨_, rfl⟩
  rw [← hh7] at hle ⊢
  clear k2 kb km
  have k2 := M.k2
  have kb := M.kb
  have km := M.km
  refine sA [] rfl ?_
  refine ev_storeAgg tabOk rfl rfl rfl rfl rfl rfl k2 rfl (fun u2 j2 e2 => ?_)
  have M := M.set2 (x' := x8) j2 e2 hle
  have k4 := k4.fr e2 (fun e => by have e : p4 = p2 := e; omega)
  have k5 := k5.fr e2 (fun e => by have e : p5 = p2 := e; omega)
  have k2 := M.k2
  have kb := M.kb
  have km := M.km
  refine sA [] rfl ?_
  refine ev_store tabOk rfl rfl rfl rfl rfl rfl km rfl (fun u3 j3 e3 => ?_)
  have M := M.setm (c' := [nilS, nilS, nilS, i64 n5, i64 n6, i64 n7]) j3 e3
  have k4 := k4.fr e3 (fun e => by have e : p4 = pm := e; omega)
  have k5 := k5.fr e3 (fun e => by have e : p5 = pm := e; omega)
  clear k2 kb km
  have k2 := M.k2
  have kb := M.kb
  have km := M.km
  refine sA [] rfl ?_; refine ev_loadAggB rfl rfl tabOk rfl rfl ‹_› (by rfl) ?_; refine sA [] rfl ?_
  refine ev_call rfl rfl rfl (hScR T x8 (s.dim) _ M.le hT (by omega)) ?_
  rintro r u1 ⟨r0, rfl, qr0, or0, e1⟩
  have M := M.row or0 e1
  have k4 := k4.fr0 e1
  have k5 := k5.fr0 e1
  have hle := (good_row (s.dim)).le T x8 M.le
  obtain ⟨⟨y1, l0⟩, hr0⟩ : ∃ zz, zz = rRow (s.dim) T x8 := ⟨_, rfl⟩
  rw [← hr0] at hle qr0 ⊢
  clear k2 kb km
  have k2 := M.k2
  have kb := M.kb
  have km := M.km
  refine sA [] rfl ?_
  refine ev_storeAgg tabOk rfl rfl rfl rfl rfl rfl k2 rfl (fun u2 j2 e2 => ?_)
  have M := M.set2 (x' := y1) j2 e2 hle
  have k4 := k4.fr e2 (fun e => by have e : p4 = p2 := e; omega)
  have k5 := k5.fr e2 (fun e => by have e : p5 = p2 := e; omega)
  have k2 := M.k2
  have kb := M.kb
  have km := M.km
  refine sA [] rfl ?_
  refine ev_store tabOk rfl rfl rfl rfl rfl rfl kb rfl (fun u3 j3 e3 => ?_)
  have M := M.setb (c' := bkC ⟨r0, zB, zB, zB, zB, zB, n0, n1, n2, n3, n4, zB, zB, zB, 0, 0, 0⟩) j3 e3
  have k4 := k4.fr e3 (fun e => by have e : p4 = pb := e; omega)
  have k5 := k5.fr e3 (fun e => by have e : p5 = pb := e; omega)
  clear k2 kb km
  have k2 := M.k2
  have kb := M.kb
  have km := M.km
  refine sA [] rfl ?_; refine ev_loadAggB rfl rfl tabOk rfl rfl ‹_› (by rfl) ?_; refine sA [] rfl ?_; refine ev_arith rfl rfl rfl rfl rfl (by simp only [lowK, hiK]; omega) ?_
  refine ev_call rfl rfl rfl (hScR T y1 (s.dim * s.dim) _ M.le hT (by omega)) ?_
  rintro r u1 ⟨r1, rfl, qr1, or1, e1⟩
  have M := M.row or1 e1
  have k4 := k4.fr0 e1
  have k5 := k5.fr0 e1
  have hle := (good_row (s.dim * s.dim)).le T y1 M.le
  obtain ⟨⟨y2, l1⟩, hr1⟩ : ∃ zz, zz = rRow (s.dim * s.dim) T y1 := ⟨_, rfl⟩
  rw [← hr1] at hle qr1 ⊢
  clear k2 kb km
  have k2 := M.k2
  have kb := M.kb
  have km := M.km
  refine sA [] rfl ?_
  refine ev_storeAgg tabOk rfl rfl rfl rfl rfl rfl k2 rfl (fun u2 j2 e2 => ?_)
  have M := M.set2 (x' := y2) j2 e2 hle
  have k4 := k4.fr e2 (fun e => by have e : p4 = p2 := e; omega)
  have k5 := k5.fr e2 (fun e => by have e : p5 = p2 := e; omega)
  have k2 := M.k2
  have kb := M.kb
  have km := M.km
  refine sA [] rfl ?_
  refine ev_store tabOk rfl rfl rfl rfl rfl rfl kb rfl (fun u3 j3 e3 => ?_)
  have M := M.setb (c' := bkC ⟨r0, r1, zB, zB, zB, zB, n0, n1, n2, n3, n4, zB, zB, zB, 0, 0, 0⟩) j3 e3
  have k4 := k4.fr e3 (fun e => by have e : p4 = pb := e; omega)
  have k5 := k5.fr e3 (fun e => by have e : p5 = pb := e; omega)
  clear k2 kb km
  have k2 := M.k2
  have kb := M.kb
  have km := M.km
  refine sA [] rfl ?_; refine ev_loadAggB rfl rfl tabOk rfl rfl ‹_› (by rfl) ?_; refine sA [] rfl ?_; refine ev_arith rfl rfl rfl rfl rfl (by simp only [lowK, hiK]; omega) ?_
  refine ev_call rfl rfl rfl (hScR T y2 (s.dim * s.dim) _ M.le hT (by omega)) ?_
  rintro r u1 ⟨r2, rfl, qr2, or2, e1⟩
  have M := M.row or2 e1
  have k4 := k4.fr0 e1
  have k5 := k5.fr0 e1
  have hle := (good_row (s.dim * s.dim)).le T y2 M.le
  obtain ⟨⟨y3, l2⟩, hr2⟩ : ∃ zz, zz = rRow (s.dim * s.dim) T y2 := ⟨_, rfl⟩
  rw [← hr2] at hle qr2 ⊢
  clear k2 kb km
  have k2 := M.k2
  have kb := M.kb
  have km := M.km
  refine sA [] rfl ?_
  refine ev_storeAgg tabOk rfl rfl rfl rfl rfl rfl k2 rfl (fun u2 j2 e2 => ?_)
  have M := M.set2 (x' := y3) j2 e2 hle
  have k4 := k4.fr e2 (fun e => by have e : p4 = p2 := e; omega)
  have k5 := k5.fr e2 (fun e => by have e : p5 = p2 := e; omega)
  have k2 := M.k2
  have kb := M.kb
  have km := M.km
  refine sA [] rfl ?_
  refine ev_store tabOk rfl rfl rfl rfl rfl rfl kb rfl (fun u3 j3 e3 => ?_)
  have M := M.setb (c' := bkC ⟨r0, r1, r2, zB, zB, zB, n0, n1, n2, n3, n4, zB, zB, zB, 0, 0, 0⟩) j3 e3
  have k4 := k4.fr e3 (fun e => by have e : p4 = pb := e; omega)
  have k5 := k5.fr e3 (fun e => by have e : p5 = pb := e; omega)
  clear k2 kb km
  have k2 := M.k2
  have kb := M.kb
  have km := M.km
  refine sA [] rfl ?_; refine ev_loadAggB rfl rfl tabOk rfl rfl ‹_› (by rfl) ?_; refine sA [] rfl ?_; refine ev_arith rfl rfl rfl rfl rfl (by simp only [lowK, hiK]; omega) ?_
  refine ev_call rfl rfl rfl (hScR T y3 (s.dim * s.dim) _ M.le hT (by omega)) ?_
  rintro r u1 ⟨r3, rfl, qr3, or3, e1⟩
  have M := M.row or3 e1
  have k4 := k4.fr0 e1
  have k5 := k5.fr0 e1
  have hle := (good_row (s.dim * s.dim)).le T y3 M.le
  obtain ⟨⟨y4, l3⟩, hr3⟩ : ∃ zz, zz = rRow (s.dim * s.dim) T y3 := ⟨_, rfl⟩
  rw [← hr3] at hle qr3 ⊢
  clear k2 kb km
  have k2 := M.k2
  have kb := M.kb
  have km := M.km
  refine sA [] rfl ?_
  refine ev_storeAgg tabOk rfl rfl rfl rfl rfl rfl k2 rfl (fun u2 j2 e2 => ?_)
  have M := M.set2 (x' := y4) j2 e2 hle
  have k4 := k4.fr e2 (fun e => by have e : p4 = p2 := e; omega)
  have k5 := k5.fr e2 (fun e => by have e : p5 = p2 := e; omega)
  have k2 := M.k2
  have kb := M.kb
  have km := M.km
  refine sA [] rfl ?_
  refine ev_store tabOk rfl rfl rfl rfl rfl rfl kb rfl (fun u3 j3 e3 => ?_)
  have M := M.setb (c' := bkC ⟨r0, r1, r2, r3, zB, zB, n0, n1, n2, n3, n4, zB, zB, zB, 0, 0, 0⟩) j3 e3
  have k4 := k4.fr e3 (fun e => by have e : p4 = pb := e; omega)
  have k5 := k5.fr e3 (fun e => by have e : p5 = pb := e; omega)
  clear k2 kb km
  have k2 := M.k2
  have kb := M.kb
  have km := M.km
  refine sA [] rfl ?_; refine ev_loadAggB rfl rfl tabOk rfl rfl ‹_› (by rfl) ?_; refine sA [] rfl ?_; refine ev_arith rfl rfl rfl rfl rfl (by simp only [lowK, hiK]; omega) ?_
  refine ev_call rfl rfl rfl (hScR T y4 (s.dim * s.dim) _ M.le hT (by omega)) ?_
  rintro r u1 ⟨r4, rfl, qr4, or4, e1⟩
  have M := M.row or4 e1
  have k4 := k4.fr0 e1
  have k5 := k5.fr0 e1
  have hle := (good_row (s.dim * s.dim)).le T y4 M.le
  obtain ⟨⟨y5, l4⟩, hr4⟩ : ∃ zz, zz = rRow (s.dim * s.dim) T y4 := ⟨_, rfl⟩
  rw [← hr4] at hle qr4 ⊢
  clear k2 kb km
  have k2 := M.k2
  have kb := M.kb
  have km := M.km
  refine sA [] rfl ?_
  refine ev_storeAgg tabOk rfl rfl rfl rfl rfl rfl k2 rfl (fun u2 j2 e2 => ?_)
  have M := M.set2 (x' := y5) j2 e2 hle
  have k4 := k4.fr e2 (fun e => by have e : p4 = p2 := e; omega)
  have k5 := k5.fr e2 (fun e => by have e : p5 = p2 := e; omega)
  have k2 := M.k2
  have kb := M.kb
  have km := M.km
  refine sA [] rfl ?_
  refine ev_store tabOk rfl rfl rfl rfl rfl rfl kb rfl (fun u3 j3 e3 => ?_)
  have M := M.setb (c' := bkC ⟨r0, r1, r2, r3, r4, zB, n0, n1, n2, n3, n4, zB, zB, zB, 0, 0, 0⟩) j3 e3
  have k4 := k4.fr e3 (fun e => by have e : p4 = pb := e; omega)
  have k5 := k5.fr e3 (fun e => by have e : p5 = pb := e; omega)
  clear k2 kb km
  have k2 := M.k2
  have kb := M.kb
  have km := M.km
  refine sA [] rfl ?_; refine ev_loadAggB rfl rfl tabOk rfl rfl ‹_› (by rfl) ?_; refine sA [] rfl ?_
  refine ev_call rfl rfl rfl (hScR T y5 (s.dim) _ M.le hT (by omega)) ?_
  rintro r u1 ⟨r5, rfl, qr5, or5, e1⟩
  have M := M.row or5 e1
  have k4 := k4.fr0 e1
  have k5 := k5.fr0 e1
  have hle := (good_row (s.dim)).le T y5 M.le
  obtain ⟨⟨y6, l5⟩, hr5⟩ : ∃ zz, zz = rRow (s.dim) T y5 := ⟨_, rfl⟩
  rw [← hr5] at hle qr5 ⊢
  clear k2 kb km
  have k2 := M.k2
  have kb := M.kb
  have km := M.km
  refine sA [] rfl ?_
  refine ev_storeAgg tabOk rfl rfl rfl rfl rfl rfl k2 rfl (fun u2 j2 e2 => ?_)
  have M := M.set2 (x' := y6) j2 e2 hle
  have k4 := k4.fr e2 (fun e => by have e : p4 = p2 := e; omega)
  have k5 := k5.fr e2 (fun e => by have e : p5 = p2 := e; omega)
  have k2 := M.k2
  have kb := M.kb
  have km := M.km
  refine sA [] rfl ?_
  refine ev_store tabOk rfl rfl rfl rfl rfl rfl kb rfl (fun u3 j3 e3 => ?_)
  have M := M.setb (c' := bkC ⟨r0, r1, r2, r3, r4, r5, n0, n1, n2, n3, n4, zB, zB, zB, 0, 0, 0⟩) j3 e3
  have k4 := k4.fr e3 (fun e => by have e : p4 = pb := e; omega)
  have k5 := k5.fr e3 (fun e => by have e : p5 = pb := e; omega)
  clear k2 kb km
  have k2 := M.k2
  have kb := M.kb
  have km := M.km
  refine sA [] rfl ?_; refine ev_loadAggB rfl rfl tabOk rfl rfl ‹_› (by rfl) ?_; refine sA [] rfl ?_; refine ev_arith rfl rfl rfl rfl rfl (by simp only [lowK, hiK]; omega) ?_
  refine ev_call rfl rfl rfl (hScR T y6 (s.hid * s.dim) _ M.le hT (by omega)) ?_
  rintro r u1 ⟨r6, rfl, qr6, or6, e1⟩
  have M := M.row or6 e1
  have k4 := k4.fr0 e1
  have k5 := k5.fr0 e1
  have hle := (good_row (s.hid * s.dim)).le T y6 M.le
  obtain ⟨⟨y7, l6⟩, hr6⟩ : ∃ zz, zz = rRow (s.hid * s.dim) T y6 := ⟨_, rfl⟩
  rw [← hr6] at hle qr6 ⊢
  clear k2 kb km
  have k2 := M.k2
  have kb := M.kb
  have km := M.km
  refine sA [] rfl ?_
  refine ev_storeAgg tabOk rfl rfl rfl rfl rfl rfl k2 rfl (fun u2 j2 e2 => ?_)
  have M := M.set2 (x' := y7) j2 e2 hle
  have k4 := k4.fr e2 (fun e => by have e : p4 = p2 := e; omega)
  have k5 := k5.fr e2 (fun e => by have e : p5 = p2 := e; omega)
  have k2 := M.k2
  have kb := M.kb
  have km := M.km
  refine sA [] rfl ?_
  refine ev_store tabOk rfl rfl rfl rfl rfl rfl km rfl (fun u3 j3 e3 => ?_)
  have M := M.setm (c' := [r6.v, nilS, nilS, i64 n5, i64 n6, i64 n7]) j3 e3
  have k4 := k4.fr e3 (fun e => by have e : p4 = pm := e; omega)
  have k5 := k5.fr e3 (fun e => by have e : p5 = pm := e; omega)
  clear k2 kb km
  have k2 := M.k2
  have kb := M.kb
  have km := M.km
  refine sA [] rfl ?_; refine ev_loadAggB rfl rfl tabOk rfl rfl ‹_› (by rfl) ?_; refine sA [] rfl ?_; refine ev_arith rfl rfl rfl rfl rfl (by simp only [lowK, hiK]; omega) ?_
  refine ev_call rfl rfl rfl (hScR T y7 (s.hid * s.dim) _ M.le hT (by omega)) ?_
  rintro r u1 ⟨r7, rfl, qr7, or7, e1⟩
  have M := M.row or7 e1
  have k4 := k4.fr0 e1
  have k5 := k5.fr0 e1
  have hle := (good_row (s.hid * s.dim)).le T y7 M.le
  obtain ⟨⟨y8, l7⟩, hr7⟩ : ∃ zz, zz = rRow (s.hid * s.dim) T y7 := ⟨_, rfl⟩
  rw [← hr7] at hle qr7 ⊢
  clear k2 kb km
  have k2 := M.k2
  have kb := M.kb
  have km := M.km
  refine sA [] rfl ?_
  refine ev_storeAgg tabOk rfl rfl rfl rfl rfl rfl k2 rfl (fun u2 j2 e2 => ?_)
  have M := M.set2 (x' := y8) j2 e2 hle
  have k4 := k4.fr e2 (fun e => by have e : p4 = p2 := e; omega)
  have k5 := k5.fr e2 (fun e => by have e : p5 = p2 := e; omega)
  have k2 := M.k2
  have kb := M.kb
  have km := M.km
  refine sA [] rfl ?_
  refine ev_store tabOk rfl rfl rfl rfl rfl rfl km rfl (fun u3 j3 e3 => ?_)
  have M := M.setm (c' := [r6.v, r7.v, nilS, i64 n5, i64 n6, i64 n7]) j3 e3
  have k4 := k4.fr e3 (fun e => by have e : p4 = pm := e; omega)
  have k5 := k5.fr e3 (fun e => by have e : p5 = pm := e; omega)
  clear k2 kb km
  have k2 := M.k2
  have kb := M.kb
  have km := M.km
  refine sA [] rfl ?_; refine ev_loadAggB rfl rfl tabOk rfl rfl ‹_› (by rfl) ?_; refine sA [] rfl ?_; refine ev_arith rfl rfl rfl rfl rfl (by simp only [lowK, hiK]; omega) ?_
  rw [hm3]
  refine ev_call rfl rfl rfl (hScR T y8 (s.hid * s.dim) _ M.le hT (by omega)) ?_
  rintro r u1 ⟨r8, rfl, qr8, or8, e1⟩
  have M := M.row or8 e1
  have k4 := k4.fr0 e1
  have k5 := k5.fr0 e1
  have hle := (good_row (s.hid * s.dim)).le T y8 M.le
  obtain ⟨⟨y9, l8⟩, hr8⟩ : ∃ zz, zz = rRow (s.hid * s.dim) T y8 := ⟨_, rfl⟩
  rw [← hr8] at hle qr8 ⊢
  clear k2 kb km
  have k2 := M.k2
  have kb := M.kb
  have km := M.km
  refine sA [] rfl ?_
  refine ev_storeAgg tabOk rfl rfl rfl rfl rfl rfl k2 rfl (fun u2 j2 e2 => ?_)
  have M := M.set2 (x' := y9) j2 e2 hle
  have k4 := k4.fr e2 (fun e => by have e : p4 = p2 := e; omega)
  have k5 := k5.fr e2 (fun e => by have e : p5 = p2 := e; omega)
  have k2 := M.k2
  have kb := M.kb
  have km := M.km
  refine sA [] rfl ?_
  refine ev_store tabOk rfl rfl rfl rfl rfl rfl km rfl (fun u3 j3 e3 => ?_)
  have M := M.setm (c' := [r6.v, r7.v, r8.v, i64 n5, i64 n6, i64 n7]) j3 e3
  have k4 := k4.fr e3 (fun e => by have e : p4 = pm := e; omega)
  have k5 := k5.fr e3 (fun e => by have e : p5 = pm := e; omega)
  clear k2 kb km
  have k2 := M.k2
  have kb := M.kb
  have km := M.km
  refine sA [] rfl ?_; refine ev_loadAggB rfl rfl tabOk rfl rfl ‹_› (by rfl) ?_; refine sA [] rfl ?_
  refine ev_storePart tabOk rfl rfl rfl rfl rfl rfl kb (show 11 + 6 ≤ 17 by omega) (fun u3 j3 e3 => ?_)
  have M := M.setb (c' := bkC ⟨r0, r1, r2, r3, r4, r5, n0, n1, n2, n3, n4, r6, r7, r8, n5, n6, n7⟩) j3 e3
  have k4 := k4.fr e3 (fun e => by have e : p4 = pb := e; omega)
  have k5 := k5.fr e3 (fun e => by have e : p5 = pb := e; omega)
  clear k2 kb km
  have hrows : rRows (manyQ s) 9 T x8 = (y9, [l0, l1, l2, l3, l4, l5, l6, l7, l8]) := by
    simp only [rRows, bind_eq, ret_eq, manyQ, List.getD_cons_zero, List.getD_cons_succ, ← hr0, ← hr1, ← hr2, ← hr3, ← hr4, ← hr5, ← hr6, ← hr7, ← hr8]
    rfl
  have hnums : rRep (rNum 1) 8 T x = (x8, [n0, n1, n2, n3, n4, n5, n6, n7]) := by
    simp only [rRep, bind_eq, ret_eq, ← hh0, ← hh1, ← hh2, ← hh3, ← hh4, ← hh5, ← hh6, ← hh7]
    rfl
  rw [rBlk_of hnums.symm hrows.symm]
  refine sA [] rfl ?_
  refine mixC_in (fun w' => Blk w' p2 (scC T y9) 149 ∧ Blk w' pb (bkC ⟨r0, r1, r2, r3, r4, r5, n0, n1, n2, n3, n4, r6, r7, r8, n5, n6, n7⟩) 86) mixed (fun u0 e0 => ?_)
  have M := M.fr0 e0
  have k4 := k4.fr0 e0
  have k5 := k5.fr0 e0
  refine m_loadAgg 0 rfl rfl rfl (by kernel_rfl) (by kernel_rfl) rfl rfl tabOk rfl rfl rfl (fun w' h => Cs.of_blk h.1) ?_
  refine m_loadAgg 1 rfl rfl rfl (by kernel_rfl) (by kernel_rfl) rfl rfl tabOk rfl rfl rfl (fun w' h => Cs.of_blk h.2) ?_
  refine mix1 rfl rfl ?_ ⟨M.k2, M.kb⟩
  refine ev_storeAgg tabOk rfl rfl rfl rfl rfl rfl k4 rfl (fun u1 j4 e1 => ?_)
  have k5 := k5.fr e1 (fun e => by have e : p5 = p4 := e; omega)
  have kc1 := M.k2.fr e1 (fun e => by have e : p2 = p4 := e; omega)
  have kc2 := M.kb.fr e1 (fun e => by have e : pb = p4 := e; omega)
  refine mix_op ?_
  refine mix1 rfl rfl ?_ ⟨kc1, kc2⟩
  refine ev_storeAgg tabOk rfl rfl rfl rfl rfl rfl k5 rfl (fun u2 j5 e2 => ?_)
  have k4 := j4.fr e2 (fun e => by have e : p4 = p5 := e; omega)
  refine mix_op ?_
  refine mix_out rfl ?_ ⟨kc1.fr e2 (fun e => by have e : p2 = p5 := e; omega), kc2.fr e2 (fun e => by have e : pb = p5 := e; omega)⟩
  refine sA [] rfl ?_
  have hF : Fr no w u2 := ((hF8.trans M.fr fun z hz e => by rcases e with e | e | e <;> omega).trans e1 fun z hz e => by have e : z = p4 := e; omega).trans e2 fun z hz e => by have e : z = p5 := e; omega
  have hn : NR w8 u2 [r0, r1, r2, r3, r4, r5, r6, r7, r8] := (M.nr.fr e1 (M.nr.ge (by omega))).fr e2 (M.nr.ge (by omega))
  exact retG tabOk (.inr rfl) rfl [scV T y9, bkV ⟨r0, r1, r2, r3, r4, r5, n0, n1, n2, n3, n4, r6, r7, r8, n5, n6, n7⟩] ⟨⟨_, rfl, .inl ⟨rfl, _, rfl, rfl, Cs.of_blk k4⟩⟩, ⟨_, rfl, .inl ⟨rfl, _, rfl, rfl, Cs.of_blk j5⟩⟩, trivial⟩ ⟨⟨r0, r1, r2, r3, r4, r5, n0, n1, n2, n3, n4, r6, r7, r8, n5, n6, n7⟩, rfl, by
    show Bk.map Rw.xs _ = mkBk _ _
    simp only [Bk.map, qr0, qr1, qr2, qr3, qr4, qr5, qr6, qr7, qr8]
    rfl, ⟨fun r hr => have z := hn.rows r hr; ⟨z.1, fun g hg => Nat.le_trans hF8.size (z.2 g hg)⟩, hn.ap⟩, hF⟩
end Go.Wk.YtdelgnflcfhhkaaGreatDoor
