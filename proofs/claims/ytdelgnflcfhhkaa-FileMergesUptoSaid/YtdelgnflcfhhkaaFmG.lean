/-
  Chapter 17: Merge: the walk.
-/
import Derived.Test.YtdelgnflcfhhkaaFmF
set_option linter.unusedVariables false
namespace Go.Wk.Ytdelgnflcfhhkaa
open Go Go.Wk Go.Proofs

set_option maxHeartbeats 64000000 in
set_option maxRecDepth 10000 in
theorem wAdMerge (t : LM) (Aad : Option Addr) (cap : Nat) (l : List Adp) (w : World) (ht : t.At w) (hl : t.Sm) (hcap : t.Cap) (hA : Cs w Aad (l.flatMap Adp.C)) (hAr : ∀ a ∈ l, a.A.At w ∧ a.B.At w) (hll : l.length ≤ 1000000000) :
    CallsF Try.prog 21 [lmV t, .slice Aad l.length cap] w fun r w' => ∃ y : LM, r = .tuple #[lmV y, i64 (mergeQ t.p l).2.1, i64 (mergeQ t.p l).2.2] ∧ y.p = (mergeQ t.p l).1 ∧ OwnS w w' y := by
  unfold mergeQ
  have zat : ∀ w', Fr no w w' → OwnS w w' zM := fun w' h => zM_own h
  refine callsF Try.func21 rfl rfl (by decide) rfl ?_
  refine sA [] rfl ?_
  refine ev_box rfl rfl rfl fun p2 w1 hp2 k2 f1 => ?_
  have k2 : Blk w1 p2 (lmC t) 31 := k2
  have l2 : p2 < w1.heap.size := k2.lt
  refine ev_alloc rfl rfl inf31 (fun p4 w2 hp4 k4 f2 => ?_)
  have k4 : Blk w2 p4 (lmC zM) 31 := k4
  have l4 : p4 < w2.heap.size := k4.lt
  have s1 := f1.size
  have s2 := f2.size
  have k2 := k2.fr0 f2
  have hF := f1.tr f2
  have hn24 : p2 ≠ p4 := fun e => by omega
  have hp2w : w.heap.size ≤ p2 := hp2
  have hp4w : w.heap.size ≤ p4 := by omega
  refine sA [] rfl ?_; refine ev_loadAggB rfl rfl tabOk rfl rfl ‹_› (by rfl) ?_
  refine ev_call rfl rfl rfl (wValid t w2 (ht.fr0 hF) hl.V hl.bl hcap) ?_
  rintro r w3 ⟨rfl, f3⟩
  have hvm := @vm_of t.p
  obtain ⟨a0, ha0⟩ : ∃ a0, a0 = validQ t.p := ⟨_, rfl⟩
  rw [← ha0] at hvm ⊢
  refine sA [] rfl ?_
  refine ev_alloc rfl rfl inf84 (fun d7 w4 hd7 k7 f4 => ?_)
  refine ev_storeAgg tabOk rfl rfl rfl rfl rfl rfl k7 rfl (fun w5 k7 f5 => ?_)
  have h35 : Fr no w3 w5 := f4.trans f5 fun z hz e => by have : z = d7 := e; omega
  have h25 := f3.tr h35
  have k2 := k2.fr0 h25
  have k4 := k4.fr0 h25
  have hF := hF.tr h25
  have s25 := h25.size
  clear k7
  refine sC [] rfl ?_; refine sD [] rfl ?_; refine sD [] rfl ?_; refine sD [] rfl ?_
  refine ev_condD rfl (fun c => ?_) (fun c => ?_)
  · have h0 : ¬ a0.2.2 = 0 := by simpa using c
    rw [if_neg h0]
    refine sA [] rfl ?_
    refine ev_build rfl rfl (v := lmV zM) rfl (fun w => by kernel_rfl) ?_
    refine sA [] rfl ?_
    refine ev_storeAgg tabOk rfl rfl rfl rfl rfl rfl k4 rfl (fun w6 k6 f6 => ?_)
    have hF6 : Fr no w w6 := hF.trans f6 fun z hz e => by have : z = p4 := e; omega
    refine sA [] rfl ?_
    exact retG tabOk (.inr rfl) rfl [lmV zM, i64 (-1), i64 a0.2.2] ⟨⟨_, rfl, .inl ⟨rfl, _, rfl, rfl, Cs.of_blk k6⟩⟩, rfl, rfl, trivial⟩ ⟨zM, rfl, rfl, zat _ hF6⟩
  have h0 : a0.2.2 = 0 := by simpa using c
  rw [if_pos h0]
  have hV := hvm h0
  obtain ⟨d1, d2⟩ : (2 : Int) ≤ t.s.dim ∧ t.s.dim ≤ 64 := hV.s.2.2.1
  obtain ⟨d, hd⟩ : ∃ d : Nat, t.s.dim = d := Int.eq_ofNat_of_zero_le (by omega)
  have hdp : t.p.s.dim = (d : Int) := hd
  have hd64 : d ≤ 64 := by omega
  have hd2 : 2 ≤ d := by omega
  have hdd : d * d ≤ 4096 := Nat.mul_le_mul hd64 hd64
  have hdd2 : 4 ≤ d * d := Nat.mul_le_mul hd2 hd2
  have hsqA := vm_sq hV hdp
  have hlay : t.bs.length ≤ 8 := by
    have h1 : ((t.p.bs).length : Int) = t.s.lay := hV.lay
    have h2 : t.s.lay ≤ 8 := hV.s.2.2.2.2.2.2.1.2
    rw [show (t.p.bs).length = t.bs.length from List.length_map _] at h1
    omega
  have hpl : t.p.bs.length = t.bs.length := List.length_map _
  rw [hdp, Int.toNat_natCast, hpl]
  clear c
  refine sA [] rfl ?_; refine ev_loadAggB rfl rfl tabOk rfl rfl ‹_› (by rfl) ?_
  refine ev_call rfl rfl rfl (wOwned t w5 (ht.fr0 hF) hV) ?_
  rintro r w6 ⟨m, rfl, hmp, hO⟩
  have f56 := hO.fr
  have hO : OwnS w w6 m := ⟨fun r hr => ⟨(hO.rows r hr).1, fun g hg => Nat.le_trans hF.size ((hO.rows r hr).2 g hg)⟩, hO.ap, hO.txt, hO.mrg, hO.blk, fun g hg => ⟨Nat.le_trans hF.size (hO.ge g hg).1, (hO.ge g hg).2⟩, hO.tm, hO.mb, hF.tr hO.fr⟩

  have s56 := f56.size
  have k2 := k2.fr0 f56
  have k4 := k4.fr0 f56
  have hms : m.s = t.s := congrArg Md.s hmp
  have hmd : m.s.dim = d := by rw [hms]; exact hd
  skip
  refine ev_storeAgg tabOk rfl rfl rfl rfl rfl rfl k2 rfl (fun w7 k27 f7 => ?_)
  have k27 : Blk w7 p2 (lmC m) 31 := k27
  have k4 := k4.fr f7 (fun e => hn24 e.symm)
  have hO := hO.oth k2 (by decide) (by decide) (by decide) (by decide) hp2w f7
  have s67 := f7.size
  clear k2
  refine sA [] rfl ?_; refine ev_loadB rfl rfl tabOk rfl rfl ‹_› (by rfl) ?_; refine sA [] rfl ?_
  rw [hmd]
  have hJ0 : 0 ≤ l.length ∧ (∀ j (hj : j < l.length), j < 0 → okA t.bs.length d l[j]) ∧ m.p = { t.p with bs := (l.take 0).foldl (stepA d) t.p.bs } ∧ OwnS w w7 m ∧ Blk w7 p2 (lmC m) 31 ∧ Blk w7 p4 (lmC zM) 31 :=
    ⟨Nat.zero_le _, fun j hj h => by omega, hmp, hO, k27, k4⟩
  clear hO k27 k4
  skip
  refine ev_loop (α := Nat × LM) (fun z => [(1, .slice Aad l.length cap), (2, ptA p2 0), (4, ptA p4 0), (9, i64 d), (35, .slice Aad l.length cap), (36, i64 l.length), (37, i64 z.1)])
    (fun z w' => z.1 ≤ l.length ∧ (∀ j (hj : j < l.length), j < z.1 → okA t.bs.length d l[j]) ∧ z.2.p = { t.p with bs := (l.take z.1).foldl (stepA d) t.p.bs } ∧ OwnS w w' z.2 ∧ Blk w' p2 (lmC z.2) 31 ∧ Blk w' p4 (lmC zM) 31) (fun z => l.length - z.1) (0, m) ⟨rfl, rfl, rfl, rfl, rfl, rfl, rfl, trivial⟩ hJ0 ?_
  clear hJ0
  rintro ⟨i, u⟩ wl ⟨hi, hok, hup, hO, k2, k4⟩
  have hi : i ≤ l.length := hi
  simp only at hok hup hO k2
  have hun : u.bs.length = t.bs.length := by
    have h := congrArg (fun m : Md => m.bs.length) hup
    have h : (u.bs.map pBk).length = ((l.take i).foldl (stepA d) t.p.bs).length := h
    rw [List.length_map, foldA_len, hpl] at h; exact h
  refine sC [] rfl ?_; refine sD [] rfl ?_
  refine ev_condD rfl (fun c => ?_) (fun c => ?_)
  · have hil : i < l.length := by omega
    obtain ⟨ga, oa, hAa, hac⟩ := adp_at (hA.fr0 hO.fr) hil
    have hai := hAr l[i] (List.getElem_mem hil)
    have hbad : ¬ okA t.bs.length d l[i] → firstB t.bs.length d l = i := fun h => first_bad hil (fun j hj => hok j (by omega) hj) h
    have hst := foldA_take d l t.p.bs hil
    have hoki : okA t.bs.length d l[i] → ∀ j (hj : j < l.length), j < i + 1 → okA t.bs.length d l[j] := fun h j hj h2 => by
      by_cases e : j = i
      · subst e; exact h
      · exact hok j hj (by omega)
    obtain ⟨a, ha⟩ : ∃ a, a = l[i] := ⟨_, rfl⟩
    rw [← ha] at hac hai hbad hst hoki
    refine sA [] rfl ?_
    refine ev_indexAddr rfl rfl tabOk (congrArg (fun z => some (Value.slice z l.length cap)) hAa) rfl rfl (by omega) (by omega) ?_
    refine ev_loadAgg rfl rfl tabOk rfl rfl rfl hac ?_
    refine ev_alloc rfl rfl inf70 (fun pa u1 hpa ka e1 => ?_)
    have la : pa < u1.heap.size := ka.lt
    refine sA [] rfl ?_
    refine ev_storeAgg tabOk rfl rfl rfl rfl rfl rfl ka rfl (fun u2 ka e2 => ?_)
    have ka : Blk u2 pa a.C 70 := ka
    have e12 : Fr no wl u2 := e1.trans e2 fun z hz e => by have : z = pa := e; omega
    have hOwl := hO.fr.size
    have k2 := k2.fr0 e12
    have k4 := k4.fr0 e12
    have hO := hO.fr0 e12
    obtain ⟨bk, pt, rk, sf, aA, aB⟩ := a
    have hai : aA.At w ∧ aB.At w := hai
    have ka : Blk u2 pa (adC bk pt rk sf aA aB) 70 := ka
    have hac' : okA t.bs.length d ⟨bk, pt, rk, sf, aA, aB⟩ ↔ (0 ≤ bk ∧ bk < t.bs.length) ∧ (1 ≤ pt ∧ pt ≤ 4) ∧ (1 ≤ rk ∧ rk ≤ 16) ∧ (0 ≤ sf ∧ sf ≤ 31) ∧ (aA.xs.length : Int) = rk * d ∧ (aB.xs.length : Int) = d * rk := Iff.rfl
    refine sA [] rfl ?_; refine ev_loadAggB rfl rfl tabOk rfl rfl ‹_› (by rfl) ?_
    refine ev_call rfl rfl rfl (wMatrixA u p2 bk pt rk sf aA aB u2 k2 (own_cs hO.blk) (by omega)) ?_
    rintro r u3 ⟨rfl, e3⟩
    have k2 := k2.fr0 e3
    have k4 := k4.fr0 e3
    have ka := ka.fr0 e3
    have hO := hO.fr0 e3
    obtain ⟨mv, hmv⟩ : ∃ mv, mv = matV u.bs bk pt := ⟨_, rfl⟩
    rw [← hmv]
    by_cases hP : (0 ≤ bk ∧ bk < u.bs.length) ∧ (1 ≤ pt ∧ pt ≤ 4)
    rotate_left
    · have hnk : ¬ okA t.bs.length d ⟨bk, pt, rk, sf, aA, aB⟩ := fun h => hP (by have h := hac'.1 h; rw [hun]; exact ⟨h.1, h.2.1⟩)
      obtain rfl : mv = nilS := by rw [hmv]; exact if_neg hP
      have hfb := hbad hnk
      rw [hfb, if_pos hil]
      refine sA [] rfl ?_
      refine ev_build rfl rfl (v := lmV zM) rfl (fun w => by kernel_rfl) ?_
      refine sA [] rfl ?_
      refine ev_storeAgg tabOk rfl rfl rfl rfl rfl rfl k4 rfl (fun v6 k6 f6 => ?_)
      have hF6 : Fr no w v6 := hO.fr.trans f6 fun z hz e => by have : z = p4 := e; omega
      refine sA [] rfl ?_
      exact retG tabOk (.inr rfl) rfl [lmV zM, i64 i, i64 174] ⟨⟨_, rfl, .inl ⟨rfl, _, rfl, rfl, Cs.of_blk k6⟩⟩, rfl, rfl, trivial⟩ ⟨zM, rfl, rfl, zat _ hF6⟩
    obtain ⟨k, rfl⟩ := Int.eq_ofNat_of_zero_le hP.1.1
    have hkn : k < u.bs.length := by have := hP.1.2; omega
    have hgd : u.bs.getD (k : Int).toNat zK = u.bs[k] := by rw [Int.toNat_natCast, List.getD_eq_getElem?_getD, List.getElem?_eq_getElem hkn]; rfl
    have hbm : u.bs[k] ∈ u.bs := List.getElem_mem hkn
    have hsqk : SqB d (pBk u.bs[k]) := by
      refine fold_sq (l.take i) hsqA _ ?_
      have h : u.p.bs = (l.take i).foldl (stepA d) t.p.bs := congrArg Md.bs hup
      rw [← h]
      exact List.mem_map_of_mem hbm
    obtain ⟨r0, hr0⟩ : ∃ r0, r0 = getP u.bs[k] pt := ⟨_, rfl⟩
    have hrm : r0 ∈ u.all := mem_all2 hbm (by rw [hr0]; exact getP_mem _ _)
    have hrO := hO.rows r0 hrm
    have hr0l : r0.xs.length = d * d := by
      have h := getP_sq hsqk pt
      rw [pt_map, ← hr0] at h; exact h
    have hrow := hrO.1
    obtain ⟨gr, hgA, hgo⟩ := own_at (i := 0) hrow (by omega)
    have hgw := hrO.2 gr hgo
    obtain rfl : mv = .slice (some ⟨gr, 0, none⟩) r0.xs.length r0.c := by
      rw [hmv]
      unfold matV
      rw [if_pos hP, hgd, ← hr0, ← hgA]
    clear hmv
    refine sA [] rfl ?_; refine ev_loadB rfl rfl tabOk rfl rfl ‹_› (by rfl) ?_; refine sD [] rfl ?_; refine sD [] rfl ?_; refine sD [] rfl ?_
    refine ev_join1 (α := Bool) (fun b => [(1, .slice Aad l.length cap), (2, ptA p2 0), (4, ptA p4 0), (9, i64 d), (35, .slice Aad l.length cap), (36, i64 l.length), (37, i64 i), (10, i64 i), (11, ptA pa 0), (12, .slice (some ⟨gr, 0, none⟩) r0.xs.length r0.c), (85, .bool b)])
      (fun b w' => w' = u3 ∧ (b = true ↔ ¬ okA t.bs.length d ⟨k, pt, rk, sf, aA, aB⟩)) ?_ ?_
    · skip
      by_cases c0 : rk < 1
      · rw [show decide (rk < 1) = true from decide_eq_true c0]
        refine sA [] rfl ?_
        exact ev_out true ⟨rfl, iff_of_true rfl (fun h => by rw [hac'] at h; omega)⟩ ⟨rfl, rfl, rfl, rfl, rfl, rfl, rfl, rfl, rfl, rfl, rfl, trivial⟩
      rw [show decide (rk < 1) = false from decide_eq_false c0]
      refine sA [] rfl ?_; refine ev_loadB rfl rfl tabOk rfl rfl ‹_› (by rfl) ?_; refine sD [] rfl ?_; refine sD [] rfl ?_; refine sD [] rfl ?_
      by_cases c1 : 16 < rk
      · rw [show decide (16 < rk) = true from decide_eq_true c1]
        refine sA [] rfl ?_
        exact ev_out true ⟨rfl, iff_of_true rfl (fun h => by rw [hac'] at h; omega)⟩ ⟨rfl, rfl, rfl, rfl, rfl, rfl, rfl, rfl, rfl, rfl, rfl, trivial⟩
      rw [show decide (16 < rk) = false from decide_eq_false c1]
      refine sA [] rfl ?_; refine ev_loadB rfl rfl tabOk rfl rfl ‹_› (by rfl) ?_; refine sD [] rfl ?_; refine sD [] rfl ?_; refine sD [] rfl ?_
      by_cases c2 : sf < 0
      · rw [show decide (sf < 0) = true from decide_eq_true c2]
        refine sA [] rfl ?_
        exact ev_out true ⟨rfl, iff_of_true rfl (fun h => by rw [hac'] at h; omega)⟩ ⟨rfl, rfl, rfl, rfl, rfl, rfl, rfl, rfl, rfl, rfl, rfl, trivial⟩
      rw [show decide (sf < 0) = false from decide_eq_false c2]
      refine sA [] rfl ?_; refine ev_loadB rfl rfl tabOk rfl rfl ‹_› (by rfl) ?_; refine sD [] rfl ?_; refine sD [] rfl ?_; refine sD [] rfl ?_
      by_cases c3 : 31 < sf
      · rw [show decide (31 < sf) = true from decide_eq_true c3]
        refine sA [] rfl ?_
        exact ev_out true ⟨rfl, iff_of_true rfl (fun h => by rw [hac'] at h; omega)⟩ ⟨rfl, rfl, rfl, rfl, rfl, rfl, rfl, rfl, rfl, rfl, rfl, trivial⟩
      rw [show decide (31 < sf) = false from decide_eq_false c3]
      refine sA [] rfl ?_; refine ev_loadB rfl rfl tabOk rfl rfl ‹_› (by rfl) ?_; refine sA [] rfl ?_; refine ev_loadB rfl rfl tabOk rfl rfl ‹_› (by rfl) ?_; refine sA [] rfl ?_
      have hrd : 0 ≤ rk * (d : Int) ∧ rk * (d : Int) ≤ 1024 := mul_bd (a := rk) (b := d) (m := 16) (k := 64) (by omega) (by omega) (by omega) (by omega)
      have hdr : (d : Int) * rk = rk * (d : Int) := Int.mul_comm _ _
      refine ev_arith rfl rfl rfl rfl rfl (by simp only [lowK, hiK]; omega) ?_; refine sD [] rfl ?_; refine sD [] rfl ?_; refine sD [] rfl ?_
      by_cases c8 : (aA.xs.length : Int) = rk * d
      rotate_left
      · rw [show decide (¬ (aA.xs.length : Int) = rk * d) = true from decide_eq_true c8]
        refine sA [] rfl ?_
        exact ev_out true ⟨rfl, iff_of_true rfl (fun h => c8 (hac'.1 h).2.2.2.2.1)⟩ ⟨rfl, rfl, rfl, rfl, rfl, rfl, rfl, rfl, rfl, rfl, rfl, trivial⟩
      rw [show decide (¬ (aA.xs.length : Int) = rk * d) = false from decide_eq_false (fun h => h c8)]
      refine sA [] rfl ?_; refine ev_loadB rfl rfl tabOk rfl rfl ‹_› (by rfl) ?_; refine sA [] rfl ?_; refine ev_loadB rfl rfl tabOk rfl rfl ‹_› (by rfl) ?_; refine ev_arith rfl rfl rfl rfl rfl (by simp only [lowK, hiK]; omega) ?_; refine sA [] rfl ?_
      by_cases c9 : (aB.xs.length : Int) = d * rk
      rotate_left
      · rw [show decide (¬ (aB.xs.length : Int) = d * rk) = true from decide_eq_true c9]
        skip
        exact ev_out true ⟨rfl, iff_of_true rfl (fun h => c9 (hac'.1 h).2.2.2.2.2)⟩ ⟨rfl, rfl, rfl, rfl, rfl, rfl, rfl, rfl, rfl, rfl, rfl, trivial⟩
      rw [show decide (¬ (aB.xs.length : Int) = d * rk) = false from decide_eq_false (fun h => h c9)]
      skip
      exact ev_out false ⟨rfl, iff_of_false Bool.false_ne_true (fun h => h (hac'.2 ⟨⟨by omega, by rw [← hun]; exact hP.1.2⟩, hP.2, ⟨by omega, by omega⟩, ⟨by omega, by omega⟩, c8, c9⟩))⟩ ⟨rfl, rfl, rfl, rfl, rfl, rfl, rfl, rfl, rfl, rfl, rfl, trivial⟩
    rintro bb w' ⟨rfl, hbb⟩
    cases bb with
    | true =>
      have hnk := hbb.1 rfl
      have hfb := hbad hnk
      rw [hfb, if_pos hil]
      refine sA [] rfl ?_
      refine ev_build rfl rfl (v := lmV zM) rfl (fun w => by kernel_rfl) ?_
      refine sA [] rfl ?_
      refine ev_storeAgg tabOk rfl rfl rfl rfl rfl rfl k4 rfl (fun v6 k6 f6 => ?_)
      have hF6 : Fr no w v6 := hO.fr.trans f6 fun z hz e => by have : z = p4 := e; omega
      refine sA [] rfl ?_
      exact retG tabOk (.inr rfl) rfl [lmV zM, i64 i, i64 174] ⟨⟨_, rfl, .inl ⟨rfl, _, rfl, rfl, Cs.of_blk k6⟩⟩, rfl, rfl, trivial⟩ ⟨zM, rfl, rfl, zat _ hF6⟩
    | false =>
      have hoka : okA t.bs.length d ⟨k, pt, rk, sf, aA, aB⟩ := Decidable.not_not.1 fun h => Bool.false_ne_true (hbb.2 h)
      have hnext := hoki hoka
      obtain ⟨⟨b1, b2⟩, ⟨b3, b4⟩, ⟨b5, b6⟩, ⟨b7, b8⟩, b9, b10⟩ := hac'.1 hoka
      have b9 : (aA.xs.length : Int) = rk * d := b9
      have b10 : (aB.xs.length : Int) = d * rk := b10
      obtain ⟨rR, rfl⟩ := Int.eq_ofNat_of_zero_le (show 0 ≤ rk by omega)
      obtain ⟨rS, rfl⟩ := Int.eq_ofNat_of_zero_le b7
      rw [← Int.natCast_mul] at b9 b10
      have hR : rR ≤ 16 := by omega
      have hpag : pa ≠ gr := blk_own_ne ka hrow hgo (by decide)
      have hpaw : w.heap.size ≤ pa := by have h1 := hOwl; have h2 : wl.heap.size ≤ pa := hpa; omega
      obtain ⟨Q, hQ⟩ : ∃ Q, Q = adQ r0.xs aA.xs aB.xs rR rS d := ⟨_, rfl⟩
      have hQl : Q.length = d * d := by rw [hQ]; exact adQ_len _ _ _ _ _ _
      have hrow0 : Own w' 60 1 (.slice (some ⟨gr, 0, none⟩) r0.xs.length r0.c) r0.xs.length ((Q.take 0 ++ r0.xs.drop 0).map i8v) := by
        rw [List.take_zero, List.drop_zero, List.nil_append, ← hgA]; exact hrow
      have upd : ∀ {p : Nat} {q : Int8}, p < d * d → Q[p]? = some q → (Q.take p ++ r0.xs.drop p).set p q = Q.take (p + 1) ++ r0.xs.drop (p + 1) := fun {p q} hp hq => by
        have h1 : (Q.take p).length = p := by rw [List.length_take]; omega
        have h2 : r0.xs.drop p = r0.xs[p]'(by omega) :: r0.xs.drop (p + 1) := List.drop_eq_getElem_cons (by omega)
        rw [List.set_append_right _ _ (by omega), h1, Nat.sub_self, h2, List.set_cons_zero, List.take_add_one, hq]
        simp
      have oldp : ∀ {p : Nat}, p < d * d → (Q.take p ++ r0.xs.drop p)[p]? = some (r0.xs.getD p 0) := fun {p} hp => by
        have h1 : (Q.take p).length = p := by rw [List.length_take]; omega
        rw [List.getElem?_append_right (by omega), h1, Nat.sub_self, List.getElem?_drop, Nat.add_zero, List.getD_eq_getElem?_getD, List.getElem?_eq_getElem (show p < r0.xs.length by omega)]
        rfl
      have hd1 : ∀ {i j : Nat}, i < d → j < d → i * d + j < d * d := fun hi hj => idx_lt hi hj
      have hoS := hO
      refine sA [] rfl ?_
      refine ev_loop (α := Nat) (fun y => [(1, .slice Aad l.length cap), (2, ptA p2 0), (4, ptA p4 0), (9, i64 d), (35, .slice Aad l.length cap), (36, i64 l.length), (37, i64 i), (11, ptA pa 0), (12, .slice (some ⟨gr, 0, none⟩) r0.xs.length r0.c), (88, i64 d), (89, i64 y)])
        (fun y w2 => y ≤ d ∧ Own w2 60 1 (.slice (some ⟨gr, 0, none⟩) r0.xs.length r0.c) r0.xs.length ((Q.take (y * d) ++ r0.xs.drop (y * d)).map i8v) ∧ Fr (fun c => c = gr) w' w2) (fun y => d - y) 0 ⟨rfl, rfl, rfl, rfl, rfl, rfl, rfl, rfl, rfl, rfl, rfl, trivial⟩
        ⟨Nat.zero_le _, by rw [Nat.zero_mul]; exact hrow0, Fr.refl _ _⟩ ?_
      rintro y wy ⟨hy, hoy, fy⟩
      refine sC [] rfl ?_; refine sD [] rfl ?_
      refine ev_condD rfl (fun cy => ?_) (fun cy => ?_)
      · have hyd : y < d := by have cy : (y : Int) < d := cy; omega
        refine sA [] rfl ?_
        refine ev_loop (α := Nat) (fun x => [(1, .slice Aad l.length cap), (2, ptA p2 0), (4, ptA p4 0), (9, i64 d), (35, .slice Aad l.length cap), (36, i64 l.length), (37, i64 i), (11, ptA pa 0), (12, .slice (some ⟨gr, 0, none⟩) r0.xs.length r0.c), (88, i64 d), (89, i64 y), (13, i64 y), (92, i64 d), (93, i64 x)])
          (fun x w2 => x ≤ d ∧ Own w2 60 1 (.slice (some ⟨gr, 0, none⟩) r0.xs.length r0.c) r0.xs.length ((Q.take (y * d + x) ++ r0.xs.drop (y * d + x)).map i8v) ∧ Fr (fun c => c = gr) w' w2) (fun x => d - x) 0 ⟨rfl, rfl, rfl, rfl, rfl, rfl, rfl, rfl, rfl, rfl, rfl, rfl, rfl, rfl, trivial⟩
          ⟨Nat.zero_le _, hoy, fy⟩ ?_
        clear hoy fy
        rintro x wx ⟨hx, hox, fx⟩
        have kax := ka.fr fx hpag
        have hFx : Fr no w wx := hoS.fr.trans fx fun z hz e => by have e : z = gr := e; omega
        have hAx : aA.At wx := hai.1.fr0 hFx
        have hBx : aB.At wx := hai.2.fr0 hFx
        refine sC [] rfl ?_; refine sD [] rfl ?_
        refine ev_condD rfl (fun cx => ?_) (fun cx => ?_)
        · have hxd : x < d := by have cx : (x : Int) < d := cx; omega
          have hpl2 := hd1 hyd hxd
          refine sA [] rfl ?_; refine ev_loadB rfl rfl tabOk rfl rfl ‹_› (by rfl) ?_; refine sA [] rfl ?_
          refine ev_loop (α := Nat) (fun k => [(1, .slice Aad l.length cap), (2, ptA p2 0), (4, ptA p4 0), (9, i64 d), (35, .slice Aad l.length cap), (36, i64 l.length), (37, i64 i), (11, ptA pa 0), (12, .slice (some ⟨gr, 0, none⟩) r0.xs.length r0.c), (88, i64 d), (89, i64 y), (13, i64 y), (92, i64 d), (93, i64 x), (14, i64 x), (15, i64 (smA aA.xs aB.xs rR d y x k)), (97, i64 rR), (98, i64 k)])
            (fun k w2 => k ≤ rR ∧ Fr no wx w2) (fun k => rR - k) 0 ⟨rfl, rfl, rfl, rfl, rfl, rfl, rfl, rfl, rfl, rfl, rfl, rfl, rfl, rfl, rfl, rfl, rfl, rfl, trivial⟩ ⟨Nat.zero_le _, Fr.refl _ _⟩ ?_
          rintro k3 wk ⟨hk3, fk⟩
          have kak := kax.fr0 fk
          refine sC [] rfl ?_; refine sD [] rfl ?_
          refine ev_condD rfl (fun c3 => ?_) (fun c3 => ?_)
          · have hkR : k3 < rR := by have c3 : (k3 : Int) < rR := c3; omega
            have hs := smA_bd aA.xs aB.xs rR d y x k3
            have hpr := prod_bd (i8_bd (aB.xs.getD (y * rR + k3) 0)) (i8_bd (aA.xs.getD (k3 * d + x) 0))
            have e1 := i8_bd (aB.xs.getD (y * rR + k3) 0)
            have e2 := i8_bd (aA.xs.getD (k3 * d + x) 0)
            have q1 : y * rR + k3 < d * rR := idx_lt hyd hkR
            have q2 : k3 * d + x < rR * d := idx_lt hkR hxd
            have q3 : rR * d ≤ 1024 := Nat.mul_le_mul hR hd64
            have q4 : d * rR ≤ 1024 := Nat.mul_le_mul hd64 hR
            have q5 : (y : Int) * (rR : Int) = ((y * rR : Nat) : Int) := (Int.natCast_mul y rR).symm
            have q6 : (k3 : Int) * (d : Int) = ((k3 * d : Nat) : Int) := (Int.natCast_mul k3 d).symm
            obtain ⟨gB, oB, hBA, hBc⟩ := rw_cell (hBx.fr0 fk) (k := y * rR + k3) (by omega)
            obtain ⟨gA, oA, hAA, hAc⟩ := rw_cell (hAx.fr0 fk) (k := k3 * d + x) (by omega)
            have hBc : wk.cell? ⟨gB, oB + ((y : Int) * (rR : Int) + (k3 : Int)).toNat * 1, none⟩ = some (.int .i8 (aB.xs.getD (y * rR + k3) 0).toInt) := by
              rw [show ((y : Int) * (rR : Int) + (k3 : Int)).toNat = y * rR + k3 by omega]; exact hBc
            have hAc : wk.cell? ⟨gA, oA + ((k3 : Int) * (d : Int) + (x : Int)).toNat * 1, none⟩ = some (.int .i8 (aA.xs.getD (k3 * d + x) 0).toInt) := by
              rw [show ((k3 : Int) * (d : Int) + (x : Int)).toNat = k3 * d + x by omega]; exact hAc
            refine sA [] rfl ?_
            refine ev_draw mixed (by kernel_rfl) ?_
            refine qA rfl ?_; refine q_loadB rfl rfl tabOk rfl rfl ‹_› (by rfl) ?_; refine qA rfl ?_; refine q_loadB rfl rfl tabOk rfl rfl ‹_› (by rfl) ?_; refine q_arith rfl rfl rfl rfl rfl (by simp only [lowK, hiK]; omega) ?_; refine qA rfl ?_; refine q_arith rfl rfl rfl rfl rfl (by simp only [lowK, hiK]; omega) ?_
            refine q_indexAddr rfl rfl tabOk (congrArg (fun z => some (Value.slice z aB.xs.length aB.c)) hBA) rfl rfl (by omega) (by omega) ?_
            refine q_load rfl rfl tabOk rfl rfl (fun _ hf => cell_fr (by assumption) hf id) ?_; refine q_conv rfl rfl tabOk rfl rfl rfl (by simp only [lowK, hiK]; omega) ?_; refine qA rfl ?_; refine q_loadB rfl rfl tabOk rfl rfl ‹_› (by rfl) ?_; refine qA rfl ?_; refine q_arith rfl rfl rfl rfl rfl (by simp only [lowK, hiK]; omega) ?_; refine qA rfl ?_; refine q_arith rfl rfl rfl rfl rfl (by simp only [lowK, hiK]; omega) ?_
            refine q_indexAddr rfl rfl tabOk (congrArg (fun z => some (Value.slice z aA.xs.length aA.c)) hAA) rfl rfl (by omega) (by omega) ?_
            refine q_load rfl rfl tabOk rfl rfl (fun _ hf => cell_fr (by assumption) hf id) ?_; refine q_conv rfl rfl tabOk rfl rfl rfl (by simp only [lowK, hiK]; omega) ?_; refine q_arith rfl rfl rfl rfl rfl (by simp only [lowK, hiK]; omega) ?_; refine q_arith rfl rfl rfl rfl rfl (by simp only [lowK, hiK]; omega) ?_; refine qA rfl ?_
            refine q_end fun wz fz => ?_
            refine sA [] rfl ?_; refine ev_arith rfl rfl rfl rfl rfl (by simp only [lowK, hiK]; omega) ?_; refine sA [] rfl ?_
            refine ev_next (k3 + 1) (by omega) ⟨by omega, fk.tr fz⟩ ⟨rfl, rfl, rfl, rfl, rfl, rfl, rfl, rfl, rfl, rfl, rfl, rfl, rfl, rfl, rfl, rfl, rfl, by show _ = some (i64 ((k3 + 1 : Nat) : Int)); rw [show ((k3 + 1 : Nat) : Int) = (k3 : Int) + 1 by omega]; rfl, trivial⟩
          have hkR : k3 = rR := by have c3 : ¬ (k3 : Int) < rR := c3; omega
          subst hkR
          have hs := smA_bd aA.xs aB.xs k3 d y x k3
          refine sA [] rfl ?_; refine ev_loadB rfl rfl tabOk rfl rfl ‹_› (by rfl) ?_
          refine ev_call rfl rfl rfl (wRound (smA aA.xs aB.xs k3 d y x k3) rS wk (by constructor <;> omega) (by omega)) ?_
          rintro r wr ⟨rfl, fr⟩
          have hrd := roundQ_bd2 rS (x := smA aA.xs aB.xs k3 d y x k3) (c := 262144) (by omega)
          obtain ⟨v, hv⟩ : ∃ v, v = roundQ (smA aA.xs aB.xs k3 d y x k3) rS := ⟨_, rfl⟩
          rw [← hv] at hrd ⊢
          have q5 : (y : Int) * (d : Int) = ((y * d : Nat) : Int) := (Int.natCast_mul y d).symm
          have hox := (hox.fr0 fk).fr0 fr
          have hcc := own_cs hox
          have hMc : wr.cell? ⟨gr, 0 + ((y : Int) * (d : Int) + (x : Int)).toNat * 1, none⟩ = some (.int .i8 (r0.xs.getD (y * d + x) 0).toInt) := by
            rw [show ((y : Int) * (d : Int) + (x : Int)).toNat = y * d + x by omega, Nat.mul_one]
            exact hcc.at (by rw [List.getElem?_map, oldp hpl2]; rfl)
          have e3 := i8_bd (r0.xs.getD (y * d + x) 0)
          refine sA [] rfl ?_; refine ev_arith rfl rfl rfl rfl rfl (by simp only [lowK, hiK]; omega) ?_; refine sA [] rfl ?_; refine ev_arith rfl rfl rfl rfl rfl (by simp only [lowK, hiK]; omega) ?_; refine sA [] rfl ?_; refine ev_arith rfl rfl rfl rfl rfl (by simp only [lowK, hiK]; omega) ?_; refine sA [] rfl ?_; refine ev_arith rfl rfl rfl rfl rfl (by simp only [lowK, hiK]; omega) ?_
          refine ev_indexAddr rfl rfl tabOk rfl rfl rfl (by omega) (by omega) ?_
          refine ev_load rfl rfl tabOk rfl rfl ‹_› ?_; refine ev_conv rfl rfl tabOk rfl rfl rfl (by simp only [lowK, hiK]; omega) ?_; refine sA [] rfl ?_; refine ev_arith rfl rfl rfl rfl rfl (by simp only [lowK, hiK]; omega) ?_
          refine ev_call rfl rfl rfl (wNarrowM ((r0.xs.getD (y * d + x) 0).toInt + v) _) ?_
          rintro r wn ⟨rfl, rfl⟩
          have hnb := narrowQ_bd ((r0.xs.getD (y * d + x) 0).toInt + v)
          have hcq : cellQ r0.xs aA.xs aB.xs k3 rS d y x = narrowQ ((r0.xs.getD (y * d + x) 0).toInt + v) := by rw [hv]; rfl
          have hQa := adQ_at r0.xs aA.xs aB.xs k3 rS hyd hxd
          rw [← hQ, hcq] at hQa
          obtain ⟨u9, hu9⟩ : ∃ u9, u9 = narrowQ ((r0.xs.getD (y * d + x) 0).toInt + v) := ⟨_, rfl⟩
          rw [← hu9] at hnb hQa ⊢
          skip
          refine ev_indexAddr rfl rfl tabOk rfl rfl rfl (by omega) (by omega) ?_
          refine ev_storeFlat tabOk rfl rfl rfl rfl rfl rfl hox rfl (by omega) (fun wo hO2 f2 => ?_)
          rw [show 0 + ((y : Int) * (d : Int) + (x : Int)).toNat * 1 = y * d + x by omega, i8_of (n := u9) (by omega), ← List.map_set, upd hpl2 hQa] at hO2
          refine sA [] rfl ?_; refine ev_arith rfl rfl rfl rfl rfl (by simp only [lowK, hiK]; omega) ?_; refine sA [] rfl ?_
          refine ev_next (x + 1) (by omega) ⟨by omega, hO2, ((fx.tr fk).tr fr).trans f2 fun _ _ e => e⟩ ⟨rfl, rfl, rfl, rfl, rfl, rfl, rfl, rfl, rfl, rfl, rfl, rfl, rfl, by show _ = some (i64 ((x + 1 : Nat) : Int)); rw [show ((x + 1 : Nat) : Int) = (x : Int) + 1 by omega]; rfl, trivial⟩
        have hxd : x = d := by have cx : ¬ (x : Int) < d := cx; omega
        subst hxd
        have e : y * x + x = (y + 1) * x := (Nat.succ_mul y x).symm
        rw [e] at hox
        refine sA [] rfl ?_; refine ev_arith rfl rfl rfl rfl rfl (by simp only [lowK, hiK]; omega) ?_; refine sA [] rfl ?_
        exact ev_next (y + 1) (by omega) ⟨by omega, hox, fx⟩ ⟨rfl, rfl, rfl, rfl, rfl, rfl, rfl, rfl, rfl, rfl, by show _ = some (i64 ((y + 1 : Nat) : Int)); rw [show ((y + 1 : Nat) : Int) = (y : Int) + 1 by omega]; rfl, trivial⟩
      have hyd : y = d := by have cy : ¬ (y : Int) < d := cy; omega
      rw [hyd, ← hr0l, List.drop_length, List.append_nil, show r0.xs.length = Q.length by omega, List.take_length] at hoy
      obtain ⟨r', hr'⟩ : ∃ r' : Rw, r' = ⟨r0.A, r0.c, Q⟩ := ⟨_, rfl⟩
      obtain ⟨b', hb'⟩ : ∃ b', b' = setP u.bs[k] pt r' := ⟨_, rfl⟩
      have hvv : r'.v = r0.v := by
        rw [hr']
        show Value.slice r0.A Q.length r0.c = .slice r0.A r0.xs.length r0.c
        rw [hQl, hr0l]
      obtain ⟨X1, Y1, hx1, hx2⟩ := setP_split u.bs[k] pt r'
      rw [← hr0] at hx1
      rw [← hb'] at hx2
      have hO2 := hoS.setRow hkn (b := b') hx1 hx2 hvv (by rw [hb']; exact setP_bkC _ _ _ (by rw [hvv, hr0])) hgo fy (by
        rw [hvv, hr']
        show Own wy 60 1 (.slice r0.A r0.xs.length r0.c) Q.length (Q.map i8v)
        rw [hgA, show r0.xs.length = Q.length by omega]
        exact hoy)
      have hpb : pBk b' = adP d ⟨k, pt, rR, rS, aA, aB⟩ (pBk u.bs[k]) := by
        rw [hb', setP_map]
        unfold adP
        rw [pt_map, ← hr0, hr', hQ]
        rfl
      have hup2 : (u.put k b').p = { t.p with bs := (l.take (i + 1)).foldl (stepA d) t.p.bs } := by
        rw [put_p hkn hpb, hup, hst]
        rfl
      have hlc : lmC (u.put k b') = lmC u := by
        show [_, _, _, _, _, _, _, _, _, _, _, _, Value.slice u.bA (u.put k b').bs.length u.bc, _, _, _, _] = _
        rw [put_len hkn]
        rfl
      have k2 := k2.fr fy (fun e => blk_own_ne k2 hrow hgo (by decide) e)
      have k4 := k4.fr fy (fun e => blk_own_ne k4 hrow hgo (by decide) e)
      refine sA [] rfl ?_; refine ev_arith rfl rfl rfl rfl rfl (by simp only [lowK, hiK]; omega) ?_; refine sA [] rfl ?_
      exact ev_next (i + 1, u.put k b') (by show l.length - (i + 1) < l.length - i; omega) ⟨by show i + 1 ≤ l.length; omega, hnext, hup2, hO2, by show Blk wy p2 (lmC (u.put k b')) _; rw [hlc]; exact k2, k4⟩ ⟨rfl, rfl, rfl, rfl, rfl, rfl, by show _ = some (i64 ((i + 1 : Nat) : Int)); rw [show ((i + 1 : Nat) : Int) = (i : Int) + 1 by omega]; rfl, trivial⟩
  have hin : i = l.length := by have c : ¬ (i : Int) < l.length := c; omega
  subst hin
  rw [first_ok (l := l) (fun j hj => hok j hj hj), if_neg (Nat.lt_irrefl _)]
  rw [List.take_length] at hup
  rw [← hup]
  have huV : u.V = t.V := congrArg Md.V hup
  refine sA [] rfl ?_; refine ev_loadAggB rfl rfl tabOk rfl rfl ‹_› (by rfl) ?_
  refine ev_call rfl rfl rfl (wValid u wl hO.At (by rw [huV]; exact hl.V) (by omega) hO.cap) ?_
  rintro r w8 ⟨rfl, f8⟩
  obtain ⟨a1, ha1⟩ : ∃ a1, a1 = validQ u.p := ⟨_, rfl⟩
  rw [← ha1]
  refine sA [] rfl ?_
  refine ev_alloc rfl rfl inf84 (fun d9 w9 hd9 k9 f9 => ?_)
  refine ev_storeAgg tabOk rfl rfl rfl rfl rfl rfl k9 rfl (fun w10 k10 f10 => ?_)
  have h810 : Fr no w8 w10 := f9.trans f10 fun z hz e => by have : z = d9 := e; omega
  have h3 := f8.tr h810
  have k2 := k2.fr0 h3
  have k4 := k4.fr0 h3
  have hO := hO.fr0 h3
  clear k9 k10
  refine sC [] rfl ?_; refine sD [] rfl ?_; refine sD [] rfl ?_; refine sD [] rfl ?_
  refine ev_condD rfl (fun c1 => ?_) (fun c1 => ?_)
  · have h1 : ¬ a1.2.2 = 0 := by simpa using c1
    rw [if_neg h1]
    refine sA [] rfl ?_
    refine ev_build rfl rfl (v := lmV zM) rfl (fun w => by kernel_rfl) ?_
    refine sA [] rfl ?_
    refine ev_storeAgg tabOk rfl rfl rfl rfl rfl rfl k4 rfl (fun v6 k6 f6 => ?_)
    have hF6 : Fr no w v6 := hO.fr.trans f6 fun z hz e => by have : z = p4 := e; omega
    refine sA [] rfl ?_
    exact retG tabOk (.inr rfl) rfl [lmV zM, i64 l.length, i64 a1.2.2] ⟨⟨_, rfl, .inl ⟨rfl, _, rfl, rfl, Cs.of_blk k6⟩⟩, rfl, rfl, trivial⟩ ⟨zM, rfl, rfl, zat _ hF6⟩
  · have h1 : a1.2.2 = 0 := by simpa using c1
    rw [if_pos h1]
    refine sA [] rfl ?_; refine ev_loadAggB rfl rfl tabOk rfl rfl ‹_› (by rfl) ?_
    refine ev_storeAgg tabOk rfl rfl rfl rfl rfl rfl k4 rfl (fun v6 k6 f6 => ?_)
    have hO := hO.oth k4 (by decide) (by decide) (by decide) (by decide) hp4w f6
    refine sA [] rfl ?_
    exact retG tabOk (.inr rfl) rfl [lmV u, i64 0, i64 0] ⟨⟨_, rfl, .inl ⟨rfl, _, rfl, rfl, Cs.of_blk k6⟩⟩, rfl, rfl, trivial⟩ ⟨u, rfl, rfl, hO⟩
end Go.Wk.Ytdelgnflcfhhkaa
