/-
  Taken for this seat out of ShN.
-/
import Derived.Test.YtdelgnflcfhhkaaGreatDoorPSi
import Derived.Test.YtdelgnflcfhhkaaGreatDoorPVo
set_option linter.unusedVariables false
namespace Go.Wk.YtdelgnflcfhhkaaGreatDoor
open Go Go.Wk Go.Proofs
/-- all rows are so long -/
def longQ (n : Int) (l : List Rw) : Bool := l.all fun r => decide ((r.xs.length : Int) = n)
theorem longQ_take {n : Int} {l : List Rw} {i : Nat} (h : i < l.length) : longQ n (l.take (i + 1)) = (longQ n (l.take i) && decide ((l[i].xs.length : Int) = n)) := by
  unfold longQ; rw [List.take_succ_eq_append_getElem h, List.all_append]; simp
theorem longQ_bad {n : Int} {l : List Rw} {i : Nat} (h : i < l.length) (hb : ¬ (l[i].xs.length : Int) = n) : longQ n l = false := by
  unfold longQ; rw [List.all_eq_false]; exact ⟨l[i], List.getElem_mem h, by simpa using hb⟩
set_option maxHeartbeats 1000000 in
theorem wLong (n : Int) (A : Option Addr) (l : List Rw) (cap : Nat) (w : World) (hA : Cs w A (l.map Rw.v)) (hl : l.length ≤ 1000000) :
    CallsF Tryz.prog 138 [i64 n, .slice A l.length cap] w fun r w' => r = .bool (longQ n l) ∧ w' = w := by
  refine callsF Tryz.func138 rfl rfl (by decide) rfl ?_
  refine sA [] rfl ?_
  refine ev_loop (α := Nat) (fun y => [(0, i64 n), (7, .slice A l.length cap), (8, i64 l.length), (9, i64 y)]) (fun y w' => y ≤ l.length ∧ w' = w ∧ longQ n (l.take y) = true) (fun y => l.length - y) 0 ⟨rfl, rfl, rfl, rfl, trivial⟩ ⟨Nat.zero_le _, rfl, rfl⟩ ?_
  rintro i w' ⟨hi, rfl, hq⟩
  refine sC [] rfl ?_; refine sD [] rfl ?_
  refine ev_condD rfl (fun c => ?_) (fun c => ?_)
  · have hlt : i < l.length := by omega
    obtain ⟨g, o, rfl, hcell⟩ := hA i l[i].v (by simp [List.getElem?_eq_getElem hlt])
    refine sA [] rfl ?_
    refine ev_indexAddr rfl rfl tabOk rfl rfl rfl (by omega) (by omega) ?_
    rw [show o + (i : Int).toNat * 1 = o + i by omega]
    refine ev_load rfl rfl tabOk rfl rfl hcell ?_
    refine sC [] rfl ?_; refine sC [] rfl ?_; refine sD [] rfl ?_
    refine ev_condD rfl (fun c2 => ?_) (fun c2 => ?_)
    · refine sA [] rfl ?_
      exact ret1 (.inr rfl) rfl rfl ⟨by rw [longQ_bad hlt c2], rfl⟩
    · refine sA [] rfl ?_; refine ev_arith rfl rfl rfl rfl rfl (by simp only [lowK, hiK]; omega) ?_; refine sA [] rfl ?_
      refine ev_next (i + 1) (by omega) ⟨by omega, rfl, by rw [longQ_take hlt, hq]; simpa using c2⟩ ⟨rfl, rfl, rfl, by rw [show ((i + 1 : Nat) : Int) = (i : Int) + 1 by omega]; rfl, trivial⟩
  · obtain rfl : i = l.length := by omega
    refine sA [] rfl ?_
    exact ret1 (.inr rfl) rfl rfl ⟨by rw [List.take_length] at hq; rw [hq], rfl⟩
/-- the shifts are right -/
def shiftQ (l : List Int) : Bool := l.all fun x => decide (0 ≤ x ∧ x ≤ 31)
theorem wShift1 (x : Int) (w : World) : CallsF Tryz.prog 140 [i64 x] w fun r w' => r = .bool (!decide (0 ≤ x ∧ x ≤ 31)) ∧ w' = w := by
  refine callsF Tryz.func140 rfl rfl (by decide) rfl ?_
  refine sA [] rfl ?_
  refine ev_call rfl rfl rfl (wBetween x 0 31 w) ?_
  rintro r w1 ⟨rfl, rfl⟩
  refine sA [] rfl ?_
  exact ret1 (.inr rfl) rfl rfl ⟨rfl, rfl⟩
theorem shiftQ_take {l : List Int} {i : Nat} (h : i < l.length) : shiftQ (l.take (i + 1)) = (shiftQ (l.take i) && decide (0 ≤ l[i] ∧ l[i] ≤ 31)) := by
  unfold shiftQ; rw [List.take_succ_eq_append_getElem h, List.all_append]; simp
theorem shiftQ_bad {l : List Int} {i : Nat} (h : i < l.length) (hb : ¬ (0 ≤ l[i] ∧ l[i] ≤ 31)) : shiftQ l = false := by
  unfold shiftQ; rw [List.all_eq_false]; exact ⟨l[i], List.getElem_mem h, by simpa using hb⟩
set_option maxHeartbeats 1000000 in
theorem wIndexF (A : Option Addr) (l : List Int) (cap : Nat) (w : World) (hA : Cs w A (l.map i64)) (hl : l.length ≤ 1000000) :
    CallsF Tryz.prog 157 [.slice A l.length cap, .func (.func 140) #[] #[]] w fun r w' => (∃ i : Int, r = i64 i ∧ shiftQ l = !decide (i ≥ 0)) ∧ w' = w := by
  refine callsF Tryz.func157 rfl rfl (by decide) rfl ?_
  refine sA [] rfl ?_
  refine ev_loop (α := Nat) (fun y => [(0, .slice A l.length cap), (1, .func (.func 140) #[] #[]), (7, i64 l.length), (8, i64 y)]) (fun y w' => y ≤ l.length ∧ w' = w ∧ shiftQ (l.take y) = true) (fun y => l.length - y) 0 ⟨rfl, rfl, rfl, rfl, trivial⟩ ⟨Nat.zero_le _, rfl, rfl⟩ ?_
  rintro i w' ⟨hi, rfl, hq⟩
  refine sC [] rfl ?_; refine sD [] rfl ?_
  refine ev_condD rfl (fun c => ?_) (fun c => ?_)
  · have hlt : i < l.length := by omega
    obtain ⟨g, o, rfl, hcell⟩ := hA i (i64 l[i]) (by simp [List.getElem?_eq_getElem hlt])
    refine sA [] rfl ?_
    refine ev_indexAddr rfl rfl tabOk rfl rfl rfl (by omega) (by omega) ?_
    rw [show o + (i : Int).toNat * 1 = o + i by omega]
    refine ev_load rfl rfl tabOk rfl rfl hcell ?_
    refine ev_callV rfl (fun t h => by cases h; rfl) rfl rfl (wShift1 l[i] _) (fun r w4 hr => ?_)
    obtain ⟨rfl, rfl⟩ := hr
    refine sD [] rfl ?_
    by_cases c2 : 0 ≤ l[i] ∧ l[i] ≤ 31
    · rw [show (!decide (0 ≤ l[i] ∧ l[i] ≤ 31)) = false by rw [decide_eq_true c2]; rfl]
      refine sA [] rfl ?_; refine ev_arith rfl rfl rfl rfl rfl (by simp only [lowK, hiK]; omega) ?_; refine sA [] rfl ?_
      refine ev_next (i + 1) (by omega) ⟨by omega, rfl, by rw [shiftQ_take hlt, hq]; simpa using c2⟩ ⟨rfl, rfl, rfl, by rw [show ((i + 1 : Nat) : Int) = (i : Int) + 1 by omega]; rfl, trivial⟩
    · rw [show (!decide (0 ≤ l[i] ∧ l[i] ≤ 31)) = true by rw [decide_eq_false c2]; rfl]
      refine sA [] rfl ?_
      exact ret1 (.inr rfl) rfl rfl ⟨⟨(i : Int), rfl, by rw [shiftQ_bad hlt c2, decide_eq_true (show (i : Int) ≥ 0 by omega)]; rfl⟩, rfl⟩
  · obtain rfl : i = l.length := by omega
    refine sA [] rfl ?_
    exact ret1 (.inr rfl) rfl rfl ⟨⟨-1, rfl, by rw [List.take_length] at hq; rw [hq]; rfl⟩, rfl⟩
theorem wShifts (A : Option Addr) (l : List Int) (cap : Nat) (w : World) (hA : Cs w A (l.map i64)) (hl : l.length ≤ 1000000) :
    CallsF Tryz.prog 111 [.slice A l.length cap] w fun r w' => r = .bool (shiftQ l) ∧ w' = w := by
  have hC : CallsF Tryz.prog 139 [.slice A l.length cap, .func (.func 140) #[] #[]] w fun r w' => r = .bool (!shiftQ l) ∧ w' = w := by
    refine callsF Tryz.func139 rfl rfl (by decide) rfl ?_
    refine sA [] rfl ?_
    refine ev_call rfl rfl rfl (wIndexF A l cap w hA hl) ?_
    rintro r w1 ⟨⟨i, rfl, hi⟩, rfl⟩
    refine sA [] rfl ?_
    exact ret1 (.inr rfl) rfl rfl ⟨by rw [hi]; simp, rfl⟩
  refine callsF Tryz.func111 rfl rfl (by decide) rfl ?_
  refine sA [] rfl ?_
  refine ev_call rfl rfl rfl hC ?_
  rintro r w1 ⟨rfl, rfl⟩
  refine sA [] rfl ?_
  exact ret1 (.inr rfl) rfl rfl ⟨by simp, rfl⟩
end Go.Wk.YtdelgnflcfhhkaaGreatDoor
namespace Go.Wk.YtdelgnflcfhhkaaGreatDoor
open Go Go.Wk Go.Proofs
def lenQ (n : Int) (l : List (List Int8)) : Bool := l.all fun x => decide ((x.length : Int) = n)
theorem longQ_eq (n : Int) (l : List Rw) : longQ n l = lenQ n (l.map Rw.xs) := by simp [longQ, lenQ, List.all_map]; rfl
/-- what is wrong with a block -/
def blockQ (s : Shp) (b : Bk (List Int8)) : Int :=
  if lenQ s.dim [b.g1, b.g2] = false then 161 else if lenQ (s.dim * s.dim) [b.q, b.k, b.v, b.o] = false then 161 else if lenQ (s.dim * s.hid) [b.ga, b.up, b.dn] = false then 161
  else if shiftQ [b.qs, b.ks, b.vs, b.os, b.ss, b.gas, b.ups, b.dns] = false then 162 else 0
set_option maxHeartbeats 4000000 in
theorem wBlock (s : Shp) (b : Bk Rw) (w : World) (hd : 0 ≤ s.dim ∧ s.dim ≤ 1000000) (hh : 0 ≤ s.hid ∧ s.hid ≤ 1000000) :
    CallsF Tryz.prog 110 [shpV s, bkV b] w fun r w' => r = i64 (blockQ s (pBk b)) ∧ Fr no w w' := by
  have hm1 := mul_bd hd.1 hd.2 hd.1 hd.2
  have hm2 := mul_bd hd.1 hd.2 hh.1 hh.2
  unfold blockQ
  refine callsF Tryz.func110 rfl rfl (by decide) rfl ?_
  refine sA [] rfl ?_
  refine ev_box rfl rfl rfl fun p w1 hp kp f1 => ?_
  refine ev_box rfl rfl rfl fun q w2 hq kq f2 => ?_
  have kp2 := kp.fr0 f2
  refine sA [] rfl ?_
  have hmid : Cs w2 (some ⟨q, 11, none⟩) [b.ga.v, b.up.v, b.dn.v, i64 b.gas, i64 b.ups, i64 b.dns] :=
    (Cs.of_blk kq).part 11 fun j u hj => match j, hj with
      | 0, h => h | 1, h => h | 2, h => h | 3, h => h | 4, h => h | 5, h => h | n + 6, h => by simp at h
  refine ev_loadAgg rfl rfl tabOk rfl rfl rfl hmid ?_
  refine ev_alloc rfl rfl inf71 (fun c w3 hc hC f3 => ?_)
  skip
  refine ev_storeAgg tabOk rfl rfl rfl rfl rfl rfl hC rfl (fun w4 kc f4 => ?_)
  clear hC
  have hs1 := f1.size
  have hpl := kp.lt
  have hql := kq.lt
  have hs2 := f2.size
  have hs3 := f3.size
  have kp4 := (kp2.fr0 f3).fr f4 (fun e => by have : p = c := e; omega)
  have kq4 := (kq.fr0 f3).fr f4 (fun e => by have : q = c := e; omega)
  have hF4 : Fr no w w4 := ((f1.tr f2).tr f3).trans f4 fun z hz e => by have : z = c := e; omega
  clear hmid kp kp2 kq
  refine sA [] rfl ?_; refine ev_loadB rfl rfl tabOk rfl rfl ‹_› (by rfl) ?_; refine sA [] rfl ?_; refine ev_loadB rfl rfl tabOk rfl rfl ‹_› (by rfl) ?_; refine sA [] rfl ?_; refine ev_loadB rfl rfl tabOk rfl rfl ‹_› (by rfl) ?_
  refine ev_buildSlice tabOk rfl rfl rfl inf44 rfl rfl rfl (fun v hv => by simp at hv; rcases hv with rfl | rfl <;> rfl) rfl (fun g1 w5 hg1 hb1 f5 => ?_)
  have kp5 := kp4.fr0 f5
  have kq5 := kq4.fr0 f5
  have kc5 := kc.fr0 f5
  have hF5 := hF4.tr f5
  refine ev_call rfl rfl rfl (wLong s.dim _ [b.g1, b.g2] 2 w5 (Cs.of_blk hb1) (by simp)) ?_
  rintro r w6 ⟨rfl, rfl⟩
  clear kp4 kq4 kc hF4 hb1
  rw [show [b.g1, b.g2] = [b.g1, b.g2] from rfl, longQ_eq, show [b.g1, b.g2].map Rw.xs = [(pBk b).g1, (pBk b).g2] from rfl]
  cases lenQ s.dim [(pBk b).g1, (pBk b).g2] with
  | false =>
    rw [if_pos rfl]
    refine sA [] rfl ?_
    exact ret1 (.inr rfl) rfl rfl ⟨rfl, hF5⟩
  | true =>
    rw [if_neg (by simp)]
    refine sA [] rfl ?_; refine ev_loadB rfl rfl tabOk rfl rfl ‹_› (by rfl) ?_; refine sA [] rfl ?_; refine ev_loadB rfl rfl tabOk rfl rfl ‹_› (by rfl) ?_; refine ev_arith rfl rfl rfl rfl rfl (by simp only [lowK, hiK]; omega) ?_; refine sA [] rfl ?_; refine ev_loadB rfl rfl tabOk rfl rfl ‹_› (by rfl) ?_; refine sA [] rfl ?_; refine ev_loadB rfl rfl tabOk rfl rfl ‹_› (by rfl) ?_; refine sA [] rfl ?_; refine ev_loadB rfl rfl tabOk rfl rfl ‹_› (by rfl) ?_; refine sA [] rfl ?_; refine ev_loadB rfl rfl tabOk rfl rfl ‹_› (by rfl) ?_
    refine ev_buildSlice tabOk rfl rfl rfl inf44 rfl rfl rfl (fun v hv => by simp at hv; rcases hv with rfl | rfl | rfl | rfl <;> rfl) rfl (fun g2 w7 hg2 hb2 f7 => ?_)
    have kp7 := kp5.fr0 f7
    have kq7 := kq5.fr0 f7
    have kc7 := kc5.fr0 f7
    have hF7 := hF5.tr f7
    refine ev_call rfl rfl rfl (wLong (s.dim * s.dim) _ [b.q, b.k, b.v, b.o] 4 w7 (Cs.of_blk hb2) (by simp)) ?_
    rintro r w8 ⟨rfl, rfl⟩
    clear kp5 kq5 kc5 hF5 hb2
    rw [longQ_eq, show [b.q, b.k, b.v, b.o].map Rw.xs = [(pBk b).q, (pBk b).k, (pBk b).v, (pBk b).o] from rfl]
    cases lenQ (s.dim * s.dim) [(pBk b).q, (pBk b).k, (pBk b).v, (pBk b).o] with
    | false =>
      rw [if_pos rfl]
      refine sA [] rfl ?_
      exact ret1 (.inr rfl) rfl rfl ⟨rfl, hF7⟩
    | true =>
      rw [if_neg (by simp)]
      refine sA [] rfl ?_; refine ev_loadB rfl rfl tabOk rfl rfl ‹_› (by rfl) ?_; refine sA [] rfl ?_; refine ev_loadB rfl rfl tabOk rfl rfl ‹_› (by rfl) ?_; refine ev_arith rfl rfl rfl rfl rfl (by simp only [lowK, hiK]; omega) ?_; refine sA [] rfl ?_; refine ev_loadB rfl rfl tabOk rfl rfl ‹_› (by rfl) ?_; refine sA [] rfl ?_; refine ev_loadB rfl rfl tabOk rfl rfl ‹_› (by rfl) ?_; refine sA [] rfl ?_; refine ev_loadB rfl rfl tabOk rfl rfl ‹_› (by rfl) ?_
      refine ev_buildSlice tabOk rfl rfl rfl inf44 rfl rfl rfl (fun v hv => by simp at hv; rcases hv with rfl | rfl | rfl <;> rfl) rfl (fun g3 w9 hg3 hb3 f9 => ?_)
      have kp9 := kp7.fr0 f9
      have kq9 := kq7.fr0 f9
      have kc9 := kc7.fr0 f9
      have hF9 := hF7.tr f9
      refine ev_call rfl rfl rfl (wLong (s.dim * s.hid) _ [b.ga, b.up, b.dn] 3 w9 (Cs.of_blk hb3) (by simp)) ?_
      rintro r wa ⟨rfl, rfl⟩
      clear kp7 kq7 kc7 hF7 hb3
      rw [longQ_eq, show [b.ga, b.up, b.dn].map Rw.xs = [(pBk b).ga, (pBk b).up, (pBk b).dn] from rfl]
      cases lenQ (s.dim * s.hid) [(pBk b).ga, (pBk b).up, (pBk b).dn] with
      | false =>
        rw [if_pos rfl]
        refine sA [] rfl ?_
        exact ret1 (.inr rfl) rfl rfl ⟨rfl, hF9⟩
      | true =>
        rw [if_neg (by simp)]
        refine sA [] rfl ?_; refine ev_loadB rfl rfl tabOk rfl rfl ‹_› (by rfl) ?_; refine sA [] rfl ?_; refine ev_loadB rfl rfl tabOk rfl rfl ‹_› (by rfl) ?_; refine sA [] rfl ?_; refine ev_loadB rfl rfl tabOk rfl rfl ‹_› (by rfl) ?_; refine sA [] rfl ?_; refine ev_loadB rfl rfl tabOk rfl rfl ‹_› (by rfl) ?_; refine sA [] rfl ?_; refine ev_loadB rfl rfl tabOk rfl rfl ‹_› (by rfl) ?_; refine sA [] rfl ?_; refine ev_loadB rfl rfl tabOk rfl rfl ‹_› (by rfl) ?_; refine sA [] rfl ?_; refine ev_loadB rfl rfl tabOk rfl rfl ‹_› (by rfl) ?_; refine sA [] rfl ?_; refine ev_loadB rfl rfl tabOk rfl rfl ‹_› (by rfl) ?_
        refine ev_buildSlice tabOk rfl rfl rfl inf3 rfl rfl rfl (fun v hv => by simp at hv; rcases hv with rfl | rfl | rfl | rfl | rfl | rfl | rfl | rfl <;> rfl) rfl (fun g4 wb hg4 hb4 fb => ?_)
        have hFb := hF9.tr fb
        refine ev_call rfl rfl rfl (wShifts _ [b.qs, b.ks, b.vs, b.os, b.ss, b.gas, b.ups, b.dns] 8 wb (Cs.of_blk hb4) (by simp)) ?_
        rintro r wc ⟨rfl, rfl⟩
        clear kp9 kq9 kc9 hF9 hb4
        rw [show [b.qs, b.ks, b.vs, b.os, b.ss, b.gas, b.ups, b.dns] = [(pBk b).qs, (pBk b).ks, (pBk b).vs, (pBk b).os, (pBk b).ss, (pBk b).gas, (pBk b).ups, (pBk b).dns] from rfl]
        cases shiftQ [(pBk b).qs, (pBk b).ks, (pBk b).vs, (pBk b).os, (pBk b).ss, (pBk b).gas, (pBk b).ups, (pBk b).dns] with
        | false =>
          rw [if_pos rfl]
          refine sA [] rfl ?_
          exact ret1 (.inr rfl) rfl rfl ⟨rfl, hFb⟩
        | true =>
          rw [if_neg (by simp)]
          refine sA [] rfl ?_
          exact ret1 (.inr rfl) rfl rfl ⟨rfl, hFb⟩
end Go.Wk.YtdelgnflcfhhkaaGreatDoor
namespace Go.Wk.YtdelgnflcfhhkaaGreatDoor
open Go Go.Wk Go.Proofs
/-- where, and what is wrong -/
abbrev whV (r : Int × Int × Int) : Value := .tuple #[.agg ⟨[i64 r.1, i64 r.2.1]⟩, i64 r.2.2]
def wordsQ (s : Shp) (V : VV) : Int × Int × Int := if (V.chk.2 : Int) = 0 then if (V.texts.length : Int) = s.voc then (0, 0, 0) else (2, V.texts.length, 161) else (2, V.chk.1, V.chk.2)
set_option maxHeartbeats 4000000 in
theorem wWords (m : LM) (w : World) (hm : m.At w) (hS : VS m.V) :
    CallsF Tryz.prog 75 [lmV m] w fun r w' => r = whV (wordsQ m.s m.V) ∧ Fr no w w' := by
  unfold wordsQ
  refine callsF Tryz.func75 rfl rfl (by decide) rfl ?_
  refine sA [] rfl ?_
  refine ev_box rfl rfl rfl fun p w1 hp kp f1 => ?_
  refine ev_alloc rfl rfl inf115 (fun q w2 hq kq f2 => ?_)
  have kp2 := kp.fr0 f2
  have hf2 := f1.tr f2
  clear kp
  refine sA [] rfl ?_
  have hvo : Cs w2 (some ⟨p, 6, none⟩) [.slice m.tA m.V.texts.length m.tc, .slice m.mA m.V.merges.length m.mc] :=
    (Cs.of_blk kp2).part 6 fun j u hj => match j, hj with
      | 0, h => h | 1, h => h | n + 2, h => by simp at h
  refine ev_loadAgg rfl rfl tabOk rfl rfl rfl hvo ?_
  refine ev_call rfl rfl rfl (wCheck m.tA m.tc m.mA m.mc m.V w2 (hm.voc.fr0 hf2) hS) ?_
  rintro r w3 ⟨rfl, f3⟩
  have kp3 := kp2.fr0 f3
  have kq3 := kq.fr0 f3
  have hf3 := hf2.tr f3
  clear hvo kp2 kq
  refine sC [] rfl ?_; refine sC [] rfl ?_; refine sD [] rfl ?_; refine sD [] rfl ?_; refine sD [] rfl ?_
  refine ev_condD rfl (fun c => ?_) (fun c => ?_)
  · rw [if_neg c]
    refine sA [] rfl ?_
    refine ev_build rfl rfl (v := .agg ⟨[i64 2, i64 m.V.chk.1]⟩) rfl (fun w => by kernel_rfl) ?_
    refine sA [] rfl ?_
    refine ev_storeAgg tabOk rfl rfl rfl rfl rfl rfl kq3 rfl (fun w4 k4 f4 => ?_)
    refine sA [] rfl ?_
    exact retG tabOk (.inr rfl) rfl [.agg ⟨[i64 2, i64 m.V.chk.1]⟩, i64 m.V.chk.2] ⟨⟨_, rfl, .inl ⟨rfl, _, rfl, rfl, Cs.of_blk k4⟩⟩, rfl, trivial⟩ ⟨rfl, hf3.trans f4 fun z hz e => by have : z = q := e; have := f1.size; omega⟩
  · rw [if_pos (by omega)]
    refine sA [] rfl ?_; refine ev_loadB rfl rfl tabOk rfl rfl ‹_› (by rfl) ?_; refine sA [] rfl ?_; refine ev_loadB rfl rfl tabOk rfl rfl ‹_› (by rfl) ?_; refine sD [] rfl ?_; refine sD [] rfl ?_
    refine ev_condD rfl (fun c2 => ?_) (fun c2 => ?_)
    · rw [if_neg c2]
      refine sA [] rfl ?_
      refine ev_build rfl rfl (v := .agg ⟨[i64 2, i64 m.V.texts.length]⟩) rfl (fun w => by kernel_rfl) ?_
      skip
      refine ev_storeAgg tabOk rfl rfl rfl rfl rfl rfl kq3 rfl (fun w4 k4 f4 => ?_)
      refine sA [] rfl ?_
      exact retG tabOk (.inr rfl) rfl [.agg ⟨[i64 2, i64 m.V.texts.length]⟩, i64 161] ⟨⟨_, rfl, .inl ⟨rfl, _, rfl, rfl, Cs.of_blk k4⟩⟩, rfl, trivial⟩ ⟨rfl, hf3.trans f4 fun z hz e => by have : z = q := e; have := f1.size; omega⟩
    · rw [if_pos (by omega)]
      refine sA [] rfl ?_
      refine ev_build rfl rfl (v := .agg ⟨[i64 0, i64 0]⟩) rfl (fun w => by kernel_rfl) ?_
      skip
      refine ev_storeAgg tabOk rfl rfl rfl rfl rfl rfl kq3 rfl (fun w4 k4 f4 => ?_)
      refine sA [] rfl ?_
      exact retG tabOk (.inr rfl) rfl [.agg ⟨[i64 0, i64 0]⟩, i64 0] ⟨⟨_, rfl, .inl ⟨rfl, _, rfl, rfl, Cs.of_blk k4⟩⟩, rfl, trivial⟩ ⟨rfl, hf3.trans f4 fun z hz e => by have : z = q := e; have := f1.size; omega⟩
end Go.Wk.YtdelgnflcfhhkaaGreatDoor
