/-
  Chapter 17: the matrix that an adapter changes; numbers narrowed: the walks.
-/
import Derived.Test.YtdelgnflcfhhkaaFmD
set_option linter.unusedVariables false
namespace Go.Wk.Ytdelgnflcfhhkaa
open Go Go.Wk Go.Proofs

theorem wClampM (x lo hi : Int) (w : World) : CallsF Try.prog 84 [i64 x, i64 lo, i64 hi] w fun r w' => r = i64 (clampQ x lo hi) ∧ w' = w := by
  refine callsF Try.func84 rfl rfl (by decide) rfl ?_
  refine sC [] rfl ?_; refine sC [] rfl ?_; refine sC [] rfl ?_; refine sD [] rfl ?_
  refine ev_condD rfl (fun c => ?_) (fun c => ?_)
  · refine sA [] rfl ?_
    exact ret1 (.inr rfl) rfl rfl ⟨by unfold clampQ; rw [if_pos c], rfl⟩
  · refine sC [] rfl ?_; refine sD [] rfl ?_; refine sD [] rfl ?_; refine sD [] rfl ?_
    refine ev_condD rfl (fun c2 => ?_) (fun c2 => ?_)
    · refine sA [] rfl ?_
      exact ret1 (.inr rfl) rfl rfl ⟨by unfold clampQ; rw [if_neg c, if_pos c2], rfl⟩
    · refine sA [] rfl ?_
      exact ret1 (.inr rfl) rfl rfl ⟨by unfold clampQ; rw [if_neg c, if_neg c2], rfl⟩
theorem wNarrowM (x : Int) (w : World) : CallsF Try.prog 56 [i64 x] w fun r w' => r = .int .i8 (narrowQ x) ∧ w' = w := by
  have h := narrowQ_bd x
  refine callsF Try.func56 rfl rfl (by decide) rfl ?_
  refine sA [] rfl ?_
  refine ev_call rfl rfl rfl (wClampM x (-127) 127 _) (fun r w1 hr => ?_)
  obtain ⟨rfl, rfl⟩ := hr
  rw [show clampQ x (-127) 127 = narrowQ x from rfl]
  refine ev_conv rfl rfl tabOk rfl rfl rfl (by simp only [lowK, hiK]; omega) ?_; refine sA [] rfl ?_
  exact ret1 (.inr rfl) rfl rfl ⟨rfl, rfl⟩
def zK : Bk Rw := ⟨zB, zB, zB, zB, zB, zB, 0, 0, 0, 0, 0, zB, zB, zB, 0, 0, 0⟩
def matV (bs : List (Bk Rw)) (bk pt : Int) : Value := if (0 ≤ bk ∧ bk < bs.length) ∧ (1 ≤ pt ∧ pt ≤ 4) then (getP (bs.getD bk.toNat zK) pt).v else nilS
set_option maxHeartbeats 8000000 in
theorem wMatrixA (m : LM) (p : Nat) (bk pt rk sf : Int) (A B : Rw) (w : World) (hp : Blk w p (lmC m) 31) (hb : Cs w m.bA (m.bs.flatMap bkC)) (hl : m.bs.length ≤ 1000000) :
    CallsF Try.prog 54 [ptA p 0, .agg ⟨adC bk pt rk sf A B⟩] w fun r w' => r = matV m.bs bk pt ∧ Fr no w w' := by
  unfold matV
  refine callsF Try.func54 rfl rfl (by decide) rfl ?_
  refine sA [] rfl ?_
  refine ev_box rfl rfl rfl fun q w1 hq kq f1 => ?_
  have kq : Blk w1 q (adC bk pt rk sf A B) 70 := kq
  have kp := hp.fr0 f1
  have hb := hb.fr0 f1
  refine sA [] rfl ?_
  refine ev_draw mixed (by kernel_rfl) ?_
  refine qA rfl ?_; refine q_loadB rfl rfl tabOk rfl rfl ‹_› (by rfl) ?_; refine qD rfl ?_; refine qD rfl ?_
  by_cases c1 : bk < 0
  · rw [show decide (bk < 0) = true from decide_eq_true c1]
    refine qA rfl ?_
    refine q_end fun w2 f2 => ?_
    refine sA [] rfl ?_
    exact ret1 (.inr rfl) rfl rfl ⟨by rw [if_neg (by omega)], f1.tr f2⟩
  rw [show decide (bk < 0) = false from decide_eq_false c1]
  refine qA rfl ?_; refine q_loadB rfl rfl tabOk rfl rfl ‹_› (by rfl) ?_; refine qA rfl ?_; refine q_loadB rfl rfl tabOk rfl rfl ‹_› (by rfl) ?_; refine qA rfl ?_
  refine q_end fun w2 f2 => ?_
  have kp := kp.fr0 f2
  have kq := kq.fr0 f2
  have hb := hb.fr0 f2
  have hF := f1.tr f2
  skip
  refine ev_condD rfl (fun c2 => ?_) (fun c2 => ?_)
  · refine sA [] rfl ?_
    exact ret1 (.inr rfl) rfl rfl ⟨by rw [if_neg (by omega)], hF⟩
  obtain ⟨k, rfl⟩ := Int.eq_ofNat_of_zero_le (show 0 ≤ bk by omega)
  have hk : k < m.bs.length := by omega
  obtain ⟨g, o, hA, hcs⟩ := blk_at hb hk
  refine sA [] rfl ?_
  refine ev_draw mixed (by kernel_rfl) ?_
  refine qA rfl ?_; refine q_loadB rfl rfl tabOk rfl rfl ‹_› (by rfl) ?_; refine qA rfl ?_; refine q_loadB rfl rfl tabOk rfl rfl ‹_› (by rfl) ?_
  refine q_indexAddr rfl rfl tabOk (congrArg (fun z => some (Value.slice z m.bs.length m.bc)) hA) rfl rfl (by omega) (by omega) ?_
  refine qA rfl ?_
  refine q_end fun w3 f3 => ?_
  have kq := kq.fr0 f3
  have hcs := hcs.fr0 f3
  have hF := hF.tr f3
  have hgd : m.bs.getD (k : Int).toNat zK = m.bs[k] := by rw [Int.toNat_natCast, List.getD_eq_getElem?_getD, List.getElem?_eq_getElem hk]; rfl
  rw [hgd]
  have h1 : w3.cell? ⟨g, o + (k : Int).toNat * 17 + 1, none⟩ = some m.bs[k].q.v := hcs.at rfl
  have h2 : w3.cell? ⟨g, o + (k : Int).toNat * 17 + 2, none⟩ = some m.bs[k].k.v := hcs.at rfl
  have h3 : w3.cell? ⟨g, o + (k : Int).toNat * 17 + 3, none⟩ = some m.bs[k].v.v := hcs.at rfl
  have h4 : w3.cell? ⟨g, o + (k : Int).toNat * 17 + 4, none⟩ = some m.bs[k].o.v := hcs.at rfl
  refine sA [] rfl ?_; refine ev_loadB rfl rfl tabOk rfl rfl ‹_› (by rfl) ?_; refine sC [] rfl ?_; refine sD [] rfl ?_; refine sD [] rfl ?_; refine sD [] rfl ?_
  refine ev_condD rfl (fun d1 => ?_) (fun d1 => ?_)
  · have d1 : pt = 1 := d1
    refine sA [] rfl ?_; refine ev_load rfl rfl tabOk rfl rfl ‹_› ?_; refine sA [] rfl ?_
    exact ret1 (.inr rfl) rfl rfl ⟨by rw [if_pos (by omega)]; unfold getP; rw [if_pos d1], hF⟩
  have d1 : ¬ pt = 1 := d1
  refine sC [] rfl ?_; refine sD [] rfl ?_
  refine ev_condD rfl (fun d2 => ?_) (fun d2 => ?_)
  · have d2 : pt = 2 := d2
    refine sA [] rfl ?_; refine ev_load rfl rfl tabOk rfl rfl ‹_› ?_; refine sA [] rfl ?_
    exact ret1 (.inr rfl) rfl rfl ⟨by rw [if_pos (by omega)]; unfold getP; rw [if_neg d1, if_pos d2], hF⟩
  have d2 : ¬ pt = 2 := d2
  refine sC [] rfl ?_; refine sD [] rfl ?_
  refine ev_condD rfl (fun d3 => ?_) (fun d3 => ?_)
  · have d3 : pt = 3 := d3
    refine sA [] rfl ?_; refine ev_load rfl rfl tabOk rfl rfl ‹_› ?_; refine sA [] rfl ?_
    exact ret1 (.inr rfl) rfl rfl ⟨by rw [if_pos (by omega)]; unfold getP; rw [if_neg d1, if_neg d2, if_pos d3], hF⟩
  have d3 : ¬ pt = 3 := d3
  refine sC [] rfl ?_; refine sD [] rfl ?_
  refine ev_condD rfl (fun d4 => ?_) (fun d4 => ?_)
  · have d4 : pt = 4 := d4
    refine sA [] rfl ?_; refine ev_load rfl rfl tabOk rfl rfl ‹_› ?_; refine sA [] rfl ?_
    exact ret1 (.inr rfl) rfl rfl ⟨by rw [if_pos (by omega)]; unfold getP; rw [if_neg d1, if_neg d2, if_neg d3], hF⟩
  have d4 : ¬ pt = 4 := d4
  refine sA [] rfl ?_
  exact ret1 (.inr rfl) rfl rfl ⟨by rw [if_neg (by omega)], hF⟩
theorem setP_split (b : Bk Rw) (pt : Int) (r' : Rw) : ∃ X Y, b.rows = X ++ getP b pt :: Y ∧ (setP b pt r').rows = X ++ r' :: Y := by
  unfold getP setP
  by_cases h1 : pt = 1
  · rw [if_pos h1, if_pos h1]; exact ⟨[b.g1, b.g2], [b.k, b.v, b.o, b.ga, b.up, b.dn], rfl, rfl⟩
  rw [if_neg h1, if_neg h1]
  by_cases h2 : pt = 2
  · rw [if_pos h2, if_pos h2]; exact ⟨[b.g1, b.g2, b.q], [b.v, b.o, b.ga, b.up, b.dn], rfl, rfl⟩
  rw [if_neg h2, if_neg h2]
  by_cases h3 : pt = 3
  · rw [if_pos h3, if_pos h3]; exact ⟨[b.g1, b.g2, b.q, b.k], [b.o, b.ga, b.up, b.dn], rfl, rfl⟩
  rw [if_neg h3, if_neg h3]
  exact ⟨[b.g1, b.g2, b.q, b.k, b.v], [b.ga, b.up, b.dn], rfl, rfl⟩
theorem setP_bkC (b : Bk Rw) (pt : Int) (r' : Rw) (h : r'.v = (getP b pt).v) : bkC (setP b pt r') = bkC b := by
  unfold getP at h
  unfold setP
  by_cases h1 : pt = 1
  · rw [if_pos h1] at h ⊢; simp only [bkC, h]
  rw [if_neg h1] at h ⊢
  by_cases h2 : pt = 2
  · rw [if_pos h2] at h ⊢; simp only [bkC, h]
  rw [if_neg h2] at h ⊢
  by_cases h3 : pt = 3
  · rw [if_pos h3] at h ⊢; simp only [bkC, h]
  rw [if_neg h3] at h ⊢
  simp only [bkC, h]
/-- a block of another kind is written -/
theorem OwnM.oth {TM TB T : TypeId} {w0 w w' : World} {m : LM} {p : Nat} {cs : List Value} (h : OwnM TM TB w0 w m) (hk : Blk w p cs T) (n1 : T ≠ 60) (n2 : T ≠ 9) (n3 : T ≠ TM) (n4 : T ≠ TB) (hp : w0.heap.size ≤ p) (hf : Fr (fun c => c = p) w w') : OwnM TM TB w0 w' m :=
  ⟨fun r hr => (h.rows r hr).fr hf fun g hg e => blk_own_ne hk (h.rows r hr).1 hg n1 (by have e : g = p := e; exact e.symm), h.ap, h.txt.fr hf fun g hg e => blk_own_ne hk h.txt hg n2 (by have e : g = p := e; exact e.symm),
   h.mrg.fr hf fun g hg e => blk_own_ne hk h.mrg hg n3 (by have e : g = p := e; exact e.symm), h.blk.fr hf fun g hg e => blk_own_ne hk h.blk hg n4 (by have e : g = p := e; exact e.symm), h.ge, h.tm, h.mb, h.fr.trans hf fun z hz e => by have e : z = p := e; omega⟩
end Go.Wk.Ytdelgnflcfhhkaa
