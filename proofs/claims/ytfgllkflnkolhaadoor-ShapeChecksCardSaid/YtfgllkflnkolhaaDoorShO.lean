/-
  Chapter 16: one block of a model.
-/
import Derived.Test.YtfgllkflnkolhaaDoorShN
set_option linter.unusedVariables false
namespace Go.Wk.YtfgllkflnkolhaaDoor
open Go Go.Wk Go.Proofs

def lenQ (n : Int) (l : List (List Int8)) : Bool := l.all fun x => decide ((x.length : Int) = n)
theorem longQ_eq (n : Int) (l : List Rw) : longQ n l = lenQ n (l.map Rw.xs) := by simp [longQ, lenQ, List.all_map]; rfl
/-- what is wrong with a block -/
def blockQ (s : Shp) (b : Bk (List Int8)) : Int :=
  if lenQ s.dim [b.g1, b.g2] = false then 161 else if lenQ (s.dim * s.dim) [b.q, b.k, b.v, b.o] = false then 161 else if lenQ (s.dim * s.hid) [b.ga, b.up, b.dn] = false then 161
  else if shiftQ [b.qs, b.ks, b.vs, b.os, b.ss, b.gas, b.ups, b.dns] = false then 162 else 0
set_option maxHeartbeats 4000000 in
theorem wBlock (s : Shp) (b : Bk Rw) (w : World) (hd : 0 ≤ s.dim ∧ s.dim ≤ 1000000) (hh : 0 ≤ s.hid ∧ s.hid ≤ 1000000) :
    CallsF Tryd.prog 69 [shpV s, bkV b] w fun r w' => r = i64 (blockQ s (pBk b)) ∧ Fr no w w' := by
  have hm1 := mul_bd hd.1 hd.2 hd.1 hd.2
  have hm2 := mul_bd hd.1 hd.2 hh.1 hh.2
  unfold blockQ
  refine callsF Tryd.func69 rfl rfl (by decide) rfl ?_
  refine sA [] rfl ?_
  refine ev_box rfl rfl rfl fun p w1 hp kp f1 => ?_
  refine ev_box rfl rfl rfl fun q w2 hq kq f2 => ?_
  have kp2 := kp.fr0 f2
  refine sA [] rfl ?_
  have hmid : Cs w2 (some ⟨q, 11, none⟩) [b.ga.v, b.up.v, b.dn.v, i64 b.gas, i64 b.ups, i64 b.dns] :=
    (Cs.of_blk kq).part 11 fun j u hj => match j, hj with
      | 0, h => h | 1, h => h | 2, h => h | 3, h => h | 4, h => h | 5, h => h | n + 6, h => by simp at h
  refine ev_loadAgg rfl rfl tabOk rfl rfl rfl hmid ?_
  refine ev_alloc rfl rfl inf58 (fun c w3 hc hC f3 => ?_)
  skip
  refine ev_storeAgg tabOk rfl rfl rfl rfl rfl rfl hC rfl (fun w4 kc f4 => ?_)
  clear hC
  have hs1 := f1.size
  have hpl := kp.lt
  have hql := kq.lt
  have hs2 := f2.size
  have hs3 := f3.size
  have kp4 := (kp2.fr0 f3).fr f4 (fun e => by have : p = c := e; omega)
  have kq4 := (kq.fr0 f3).fr f4 (fun e => by have : q = c := e; omega)
  have hF4 : Fr no w w4 := ((f1.tr f2).tr f3).trans f4 fun z hz e => by have : z = c := e; omega
  clear hmid kp kp2 kq
  refine sA [] rfl ?_; refine ev_loadB rfl rfl tabOk rfl rfl ‹_› (by rfl) ?_; refine sA [] rfl ?_; refine ev_loadB rfl rfl tabOk rfl rfl ‹_› (by rfl) ?_; refine sA [] rfl ?_; refine ev_loadB rfl rfl tabOk rfl rfl ‹_› (by rfl) ?_
  refine ev_buildSlice tabOk rfl rfl rfl inf40 rfl rfl rfl (fun v hv => by simp at hv; rcases hv with rfl | rfl <;> rfl) rfl (fun g1 w5 hg1 hb1 f5 => ?_)
  have kp5 := kp4.fr0 f5
  have kq5 := kq4.fr0 f5
  have kc5 := kc.fr0 f5
  have hF5 := hF4.tr f5
  refine ev_call rfl rfl rfl (wLong s.dim _ [b.g1, b.g2] 2 w5 (Cs.of_blk hb1) (by simp)) ?_
  rintro r w6 ⟨rfl, rfl⟩
  clear kp4 kq4 kc hF4 hb1
  rw [show [b.g1, b.g2] = [b.g1, b.g2] from rfl, longQ_eq, show [b.g1, b.g2].map Rw.xs = [(pBk b).g1, (pBk b).g2] from rfl]
  cases lenQ s.dim [(pBk b).g1, (pBk b).g2] with
  | false =>
    rw [if_pos rfl]
    refine sA [] rfl ?_
    exact ret1 (.inr rfl) rfl rfl ⟨rfl, hF5⟩
  | true =>
    rw [if_neg (by simp)]
    refine sA [] rfl ?_; refine ev_loadB rfl rfl tabOk rfl rfl ‹_› (by rfl) ?_; refine sA [] rfl ?_; refine ev_loadB rfl rfl tabOk rfl rfl ‹_› (by rfl) ?_; refine ev_arith rfl rfl rfl rfl rfl (by simp only [lowK, hiK]; omega) ?_; refine sA [] rfl ?_; refine ev_loadB rfl rfl tabOk rfl rfl ‹_› (by rfl) ?_; refine sA [] rfl ?_; refine ev_loadB rfl rfl tabOk rfl rfl ‹_› (by rfl) ?_; refine sA [] rfl ?_; refine ev_loadB rfl rfl tabOk rfl rfl ‹_› (by rfl) ?_; refine sA [] rfl ?_; refine ev_loadB rfl rfl tabOk rfl rfl ‹_› (by rfl) ?_
    refine ev_buildSlice tabOk rfl rfl rfl inf40 rfl rfl rfl (fun v hv => by simp at hv; rcases hv with rfl | rfl | rfl | rfl <;> rfl) rfl (fun g2 w7 hg2 hb2 f7 => ?_)
    have kp7 := kp5.fr0 f7
    have kq7 := kq5.fr0 f7
    have kc7 := kc5.fr0 f7
    have hF7 := hF5.tr f7
    refine ev_call rfl rfl rfl (wLong (s.dim * s.dim) _ [b.q, b.k, b.v, b.o] 4 w7 (Cs.of_blk hb2) (by simp)) ?_
    rintro r w8 ⟨rfl, rfl⟩
    clear kp5 kq5 kc5 hF5 hb2
    rw [longQ_eq, show [b.q, b.k, b.v, b.o].map Rw.xs = [(pBk b).q, (pBk b).k, (pBk b).v, (pBk b).o] from rfl]
    cases lenQ (s.dim * s.dim) [(pBk b).q, (pBk b).k, (pBk b).v, (pBk b).o] with
    | false =>
      rw [if_pos rfl]
      refine sA [] rfl ?_
      exact ret1 (.inr rfl) rfl rfl ⟨rfl, hF7⟩
    | true =>
      rw [if_neg (by simp)]
      refine sA [] rfl ?_; refine ev_loadB rfl rfl tabOk rfl rfl ‹_› (by rfl) ?_; refine sA [] rfl ?_; refine ev_loadB rfl rfl tabOk rfl rfl ‹_› (by rfl) ?_; refine ev_arith rfl rfl rfl rfl rfl (by simp only [lowK, hiK]; omega) ?_; refine sA [] rfl ?_; refine ev_loadB rfl rfl tabOk rfl rfl ‹_› (by rfl) ?_; refine sA [] rfl ?_; refine ev_loadB rfl rfl tabOk rfl rfl ‹_› (by rfl) ?_; refine sA [] rfl ?_; refine ev_loadB rfl rfl tabOk rfl rfl ‹_› (by rfl) ?_
      refine ev_buildSlice tabOk rfl rfl rfl inf40 rfl rfl rfl (fun v hv => by simp at hv; rcases hv with rfl | rfl | rfl <;> rfl) rfl (fun g3 w9 hg3 hb3 f9 => ?_)
      have kp9 := kp7.fr0 f9
      have kq9 := kq7.fr0 f9
      have kc9 := kc7.fr0 f9
      have hF9 := hF7.tr f9
      refine ev_call rfl rfl rfl (wLong (s.dim * s.hid) _ [b.ga, b.up, b.dn] 3 w9 (Cs.of_blk hb3) (by simp)) ?_
      rintro r wa ⟨rfl, rfl⟩
      clear kp7 kq7 kc7 hF7 hb3
      rw [longQ_eq, show [b.ga, b.up, b.dn].map Rw.xs = [(pBk b).ga, (pBk b).up, (pBk b).dn] from rfl]
      cases lenQ (s.dim * s.hid) [(pBk b).ga, (pBk b).up, (pBk b).dn] with
      | false =>
        rw [if_pos rfl]
        refine sA [] rfl ?_
        exact ret1 (.inr rfl) rfl rfl ⟨rfl, hF9⟩
      | true =>
        rw [if_neg (by simp)]
        refine sA [] rfl ?_; refine ev_loadB rfl rfl tabOk rfl rfl ‹_› (by rfl) ?_; refine sA [] rfl ?_; refine ev_loadB rfl rfl tabOk rfl rfl ‹_› (by rfl) ?_; refine sA [] rfl ?_; refine ev_loadB rfl rfl tabOk rfl rfl ‹_› (by rfl) ?_; refine sA [] rfl ?_; refine ev_loadB rfl rfl tabOk rfl rfl ‹_› (by rfl) ?_; refine sA [] rfl ?_; refine ev_loadB rfl rfl tabOk rfl rfl ‹_› (by rfl) ?_; refine sA [] rfl ?_; refine ev_loadB rfl rfl tabOk rfl rfl ‹_› (by rfl) ?_; refine sA [] rfl ?_; refine ev_loadB rfl rfl tabOk rfl rfl ‹_› (by rfl) ?_; refine sA [] rfl ?_; refine ev_loadB rfl rfl tabOk rfl rfl ‹_› (by rfl) ?_
        refine ev_buildSlice tabOk rfl rfl rfl inf3 rfl rfl rfl (fun v hv => by simp at hv; rcases hv with rfl | rfl | rfl | rfl | rfl | rfl | rfl | rfl <;> rfl) rfl (fun g4 wb hg4 hb4 fb => ?_)
        have hFb := hF9.tr fb
        refine ev_call rfl rfl rfl (wShifts _ [b.qs, b.ks, b.vs, b.os, b.ss, b.gas, b.ups, b.dns] 8 wb (Cs.of_blk hb4) (by simp)) ?_
        rintro r wc ⟨rfl, rfl⟩
        clear kp9 kq9 kc9 hF9 hb4
        rw [show [b.qs, b.ks, b.vs, b.os, b.ss, b.gas, b.ups, b.dns] = [(pBk b).qs, (pBk b).ks, (pBk b).vs, (pBk b).os, (pBk b).ss, (pBk b).gas, (pBk b).ups, (pBk b).dns] from rfl]
        cases shiftQ [(pBk b).qs, (pBk b).ks, (pBk b).vs, (pBk b).os, (pBk b).ss, (pBk b).gas, (pBk b).ups, (pBk b).dns] with
        | false =>
          rw [if_pos rfl]
          refine sA [] rfl ?_
          exact ret1 (.inr rfl) rfl rfl ⟨rfl, hFb⟩
        | true =>
          rw [if_neg (by simp)]
          refine sA [] rfl ?_
          exact ret1 (.inr rfl) rfl rfl ⟨rfl, hFb⟩
end Go.Wk.YtfgllkflnkolhaaDoor
