/-
  Chapter 17: law FileMerges.
-/
import Derived.Test.YtdelgnflcfhhkaaFmG
import Derived.Test.YtdelgnflcfhhkaaFmE
set_option linter.unusedVariables false
namespace Go.Wk.Ytdelgnflcfhhkaa
open Go Go.Wk Go.Proofs

theorem merge_cases (m : Md) (l : List Adp) : ((mergeQ m l).1 = zM.p ∧ (mergeQ m l).2.2 ≠ 0) ∨ ((validQ (mergeQ m l).1).2.2 = 0 ∧ (mergeQ m l).1.V = m.V ∧ (mergeQ m l).2.2 = 0) := by
  unfold mergeQ
  split
  · split
    · exact .inl ⟨rfl, by show (174 : Int) ≠ 0; decide⟩
    split
    · rename_i h; exact .inr ⟨h, rfl, rfl⟩
    · rename_i h; exact .inl ⟨rfl, h⟩
  · rename_i h; exact .inl ⟨rfl, h⟩
theorem vm_Sm {m : LM} (h : VM m.p) (hV : VS m.V) : m.Sm := by
  obtain ⟨⟨r1, r2, r3, r4, r5, r6⟩, hrb⟩ := vm_rows h
  have r1 : m.e.xs.length ≤ 100000 := r1
  have r2 : m.cos.xs.length ≤ 100000 := r2
  have r3 : m.sin.xs.length ≤ 100000 := r3
  have r4 : m.bend.xs.length ≤ 100000 := r4
  have r5 : m.gain.xs.length ≤ 100000 := r5
  have r6 : m.un.xs.length ≤ 100000 := r6
  have hlay : m.bs.length ≤ 8 := by
    have h1 : ((m.p.bs).length : Int) = m.s.lay := h.lay
    have h2 : m.s.lay ≤ 8 := h.s.2.2.2.2.2.2.1.2
    rw [show (m.p.bs).length = m.bs.length from List.length_map _] at h1
    omega
  refine ⟨fun r hr => ?_, fun b hb r hr => ?_, by omega, hV⟩
  · have hr : r = m.e ∨ r = m.cos ∨ r = m.sin ∨ r = m.bend ∨ r = m.gain ∨ r = m.un := by simpa using hr
    rcases hr with rfl | rfl | rfl | rfl | rfl | rfl <;> omega
  · have := hrb (pBk b) (List.mem_map_of_mem hb) r.xs (by
      have hr : r = b.g1 ∨ r = b.g2 ∨ r = b.q ∨ r = b.k ∨ r = b.v ∨ r = b.o ∨ r = b.ga ∨ r = b.up ∨ r = b.dn := by simpa using hr
      rcases hr with rfl | rfl | rfl | rfl | rfl | rfl | rfl | rfl | rfl <;> simp [Bk.map])
    omega
set_option maxHeartbeats 32000000 in
set_option maxRecDepth 10000 in
theorem lawMerges (m : LM) (Aad : Option Addr) (cap n : Nat) (l : List Adp) (hn : l.length = n) (w : World) (hm : m.At w) (hl : m.Sm) (hcap : m.Cap) (hA : Cs w Aad (l.flatMap Adp.C)) (hAr : ∀ a ∈ l, a.A.At w ∧ a.B.At w) (hll : n ≤ 1000000000) :
    CallsF Try.prog 10 [lmV m, .slice Aad n cap] w fun r w' => r = .bool true ∧ Fr no w w' := by
  subst hn
  have hmc := merge_cases m.p l
  have hwd := fun w hm hA hAr => wAdMerge m Aad cap l w hm hl hcap hA hAr hll
  refine callsF Try.func10 rfl rfl (by decide) rfl ?_
  refine sA [] rfl ?_
  refine ev_box rfl rfl rfl fun p2 w1 hp2 k2 f1 => ?_
  have k2 : Blk w1 p2 (lmC m) 31 := k2
  refine sA [] rfl ?_; refine ev_loadAggB rfl rfl tabOk rfl rfl ‹_› (by rfl) ?_
  refine ev_call rfl rfl rfl (refOf m w1 (hm.fr0 f1) hl) ?_
  rintro r w2 ⟨t, rfl, htp, hO⟩
  have htl := Sm_p htp hl
  have htc := hO.cap
  have k2 := k2.fr0 hO.fr
  have hF := f1.tr hO.fr
  skip
  refine ev_alloc rfl rfl inf41 (fun p5 w3 hp5 k5 f3 => ?_)
  refine ev_storeAgg tabOk rfl rfl rfl rfl rfl rfl k5 rfl (fun w4 k54 f4 => ?_)
  have h24 : Fr no w2 w4 := f3.trans f4 fun z hz e => by have : z = p5 := e; omega
  have k5 : Blk w4 p5 (lmC t) 41 := k54
  have k2 := k2.fr0 h24
  have hF := hF.tr h24
  have ht := hO.At.fr0 h24
  have ht4 := ht
  have k24 := k2
  have k54b := k5
  clear k54
  refine sA [] rfl ?_
  refine ev_buildSlice tabOk rfl rfl rfl inf71 rfl rfl rfl (by simp) rfl (fun q w5 hq kq f5 => ?_)
  have ho0 : Own w5 71 6 (.slice (some ⟨q, 0, none⟩) 0 0) 0 [] := own_of_blk (m := 0) (sz := 6) kq rfl (by omega)
  have k2 := k2.fr0 f5
  have k5 := k5.fr0 f5
  have hF5 := hF.tr f5
  have ht := ht.fr0 f5
  have hs5 := f5.size
  have hsF := hF.size
  have l2 := k2.lt
  have l5 := k5.lt
  have k2o := k24
  have k5o := k54b
  refine sA [] rfl ?_
  refine ev_loop (α := Nat × Value) (fun z => [(1, .slice Aad l.length cap), (2, ptA p2 0), (5, ptA p5 0), (6, z.2), (7, i64 z.1)])
    (fun z w' => z.1 ≤ l.length ∧ Own w' 71 6 z.2 z.1 ((l.take z.1).flatMap Adp.C) ∧ Fr no w4 w' ∧ ∀ g, z.2.ownBlock = some g → w4.heap.size ≤ g) (fun z => l.length - z.1) (0, .slice (some ⟨q, 0, none⟩) 0 0) ⟨rfl, rfl, rfl, rfl, rfl, trivial⟩
    ⟨Nat.zero_le _, ho0, f5, fun g hg => by cases hg; exact hq⟩ ?_
  rintro ⟨i, v⟩ wi ⟨hi, ho, fi, hv⟩
  have hi : i ≤ l.length := hi
  simp only at ho hv
  refine sC [] rfl ?_; refine sC [] rfl ?_
  refine ev_condD rfl (fun c => ?_) (fun c => ?_)
  · have hil : i < l.length := by have c : (i : Int) < l.length := c; omega
    have htk : (l.take (i + 1)).flatMap Adp.C = (l.take i).flatMap Adp.C ++ l[i].C := by
      rw [List.take_succ_eq_append_getElem hil, List.flatMap_append]; simp
    obtain ⟨ga, oa, hAa, hac⟩ := adp_at (hA.fr0 hF) hil
    obtain ⟨a, ha⟩ : ∃ a, a = l[i] := ⟨_, rfl⟩
    rw [← ha] at hac htk
    obtain ⟨bk, pt, rk, sf, aA, aB⟩ := a
    have hc : ∀ {w' : World} (h : Fr no w4 w') {j : Nat} {u : Value}, (adC bk pt rk sf aA aB)[j]? = some u → w'.cell? ⟨ga, oa + (i : Int).toNat * 6 + j, none⟩ = some u := fun {w'} h {j} {u} hj => (hac.fr0 h).at hj
    obtain ⟨Av, cv, rfl, _, _⟩ := ho.slice
    refine sA [] rfl ?_
    refine mixC_in (fun w' => Fr no w4 w') mixed (fun u0 g0 => ?_)
    have g4 := fi.tr g0
    refine mA rfl (by kernel_rfl) (by kernel_rfl) ?_
    refine m_indexAddr 3 rfl rfl rfl (by kernel_rfl) (by kernel_rfl) rfl rfl tabOk (congrArg (fun z => some (Value.slice z l.length cap)) hAa) rfl rfl (by omega) (by omega) ?_
    refine m_indexAddr 8 rfl rfl rfl (by kernel_rfl) (by kernel_rfl) rfl rfl tabOk (congrArg (fun z => some (Value.slice z l.length cap)) hAa) rfl rfl (by omega) (by omega) ?_
    refine m_indexAddr 13 rfl rfl rfl (by kernel_rfl) (by kernel_rfl) rfl rfl tabOk (congrArg (fun z => some (Value.slice z l.length cap)) hAa) rfl rfl (by omega) (by omega) ?_
    refine m_indexAddr 18 rfl rfl rfl (by kernel_rfl) (by kernel_rfl) rfl rfl tabOk (congrArg (fun z => some (Value.slice z l.length cap)) hAa) rfl rfl (by omega) (by omega) ?_
    refine m_indexAddr 23 rfl rfl rfl (by kernel_rfl) (by kernel_rfl) rfl rfl tabOk (congrArg (fun z => some (Value.slice z l.length cap)) hAa) rfl rfl (by omega) (by omega) ?_
    refine m_indexAddr 28 rfl rfl rfl (by kernel_rfl) (by kernel_rfl) rfl rfl tabOk (congrArg (fun z => some (Value.slice z l.length cap)) hAa) rfl rfl (by omega) (by omega) ?_
    refine mA rfl (by kernel_rfl) (by kernel_rfl) ?_
    refine m_load 5 rfl rfl rfl (by kernel_rfl) (by kernel_rfl) rfl rfl tabOk rfl rfl (fun w' h => hc h (j := 0) rfl) ?_
    refine m_load 10 rfl rfl rfl (by kernel_rfl) (by kernel_rfl) rfl rfl tabOk rfl rfl (fun w' h => hc h (j := 1) rfl) ?_
    refine m_load 15 rfl rfl rfl (by kernel_rfl) (by kernel_rfl) rfl rfl tabOk rfl rfl (fun w' h => hc h (j := 2) rfl) ?_
    refine m_load 20 rfl rfl rfl (by kernel_rfl) (by kernel_rfl) rfl rfl tabOk rfl rfl (fun w' h => hc h (j := 3) rfl) ?_
    refine m_load 25 rfl rfl rfl (by kernel_rfl) (by kernel_rfl) rfl rfl tabOk rfl rfl (fun w' h => hc h (j := 4) rfl) ?_
    refine m_load 30 rfl rfl rfl (by kernel_rfl) (by kernel_rfl) rfl rfl tabOk rfl rfl (fun w' h => hc h (j := 5) rfl) ?_
    refine m_build (v := .agg ⟨adC bk pt rk sf aA aB⟩) 31 rfl rfl rfl (by kernel_rfl) (by kernel_rfl) rfl rfl rfl (fun w => by kernel_rfl) ?_
    refine mix1 rfl rfl ?_ g4
    refine ev_buildSlice tabOk rfl rfl rfl inf71 rfl rfl rfl (fun v hv => by simp at hv; rcases hv with rfl; rfl) rfl (fun q2 u1 hq2 kq2 e1 => ?_)
    have kq2 : Blk u1 q2 (adC bk pt rk sf aA aB) 71 := kq2
    have g5 := g4.tr e1
    have ho := (ho.fr0 g0).fr0 e1
    refine mix_op ?_
    refine mix1 rfl rfl ?_ g5
    refine ev_append (A := some ⟨q2, 0, none⟩) (m := 1) (c := 1) (news := adC bk pt rk sf aA aB) tabOk rfl rfl rfl inf71 rfl (by omega) rfl rfl ho (Cs.of_blk kq2) rfl (allOne_ok rfl) (by omega) (fun v2 u2 ho2 e2 hn2 => ?_)
    have hn2 := NB.of hn2
    have g6 : Fr no w4 u2 := g5.trans e2 fun z hz e => by have := hv z e; omega
    have se := g5.size
    refine mix_op ?_
    refine mA rfl (by kernel_rfl) (by kernel_rfl) ?_
    refine mix_out rfl ?_ g6
    refine sA [] rfl ?_; refine ev_arith rfl rfl rfl rfl rfl (by simp only [lowK, hiK]; omega) ?_; refine sA [] rfl ?_
    refine ev_next (i + 1, v2) (by show l.length - (i + 1) < l.length - i; omega) ⟨by show i + 1 ≤ l.length; omega, by rw [htk]; exact ho2, g6, fun g hg => ?_⟩ ⟨rfl, rfl, rfl, rfl, by show _ = some (i64 ((i + 1 : Nat) : Int)); rw [show ((i + 1 : Nat) : Int) = (i : Int) + 1 by omega]; rfl, trivial⟩
    rcases hn2 g hg with h | h
    · exact hv g h
    · omega
  have hin : i = l.length := by have c : ¬ (i : Int) < l.length := c; omega
  subst hin
  rw [List.take_length] at ho
  have k2 := k2o.fr0 fi
  have k5 := k5o.fr0 fi
  have l2i := k2.lt
  have l5i := k5.lt
  have hF := hF.tr fi
  have hFi := hF
  have ht := ht4.fr0 fi
  have hti := ht
  obtain ⟨aA, ac, rfl, hac, _⟩ := ho.slice
  refine sA [] rfl ?_; refine ev_loadAggB rfl rfl tabOk rfl rfl ‹_› (by rfl) ?_; refine sA [] rfl ?_
  refine ev_call rfl rfl rfl (hwd wi (hm.fr0 hF) (hA.fr0 hF) (fun a ha => ⟨(hAr a ha).1.fr0 hF, (hAr a ha).2.fr0 hF⟩)) ?_
  rintro r w6 ⟨x, rfl, hxp, hOx⟩
  have f6 := hOx.fr
  have k2 := k2.fr0 f6
  have k5 := k5.fr0 f6
  refine sA [] rfl ?_
  refine ev_alloc rfl rfl inf31 (fun p8 w7 hp8 k8 f7 => ?_)
  refine ev_storeAgg tabOk rfl rfl rfl rfl rfl rfl k8 rfl (fun w8 k88 f8 => ?_)
  have h68 : Fr no w6 w8 := f7.trans f8 fun z hz e => by have : z = p8 := e; omega
  have k8 : Blk w8 p8 (lmC x) 31 := k88
  have hOx8 := hOx.fr0 h68
  have h8 := f6.tr h68
  have k2 := k2.fr0 h68
  have k5 := k5.fr0 h68
  clear k88
  refine sA [] rfl ?_; refine ev_loadAggB rfl rfl tabOk rfl rfl ‹_› (by rfl) ?_; refine sA [] rfl ?_
  refine ev_call rfl rfl rfl (refAdMerge t aA ac l w8 (ht.fr0 h8) htl htc (hac.fr0 h8) (fun a ha => ⟨(hAr a ha).1.fr0 (hF.tr h8), (hAr a ha).2.fr0 (hF.tr h8)⟩) hll) ?_
  rintro r w9 ⟨y, rfl, hyp, hy, f9⟩
  rw [htp] at hyp ⊢
  have k2 := k2.fr0 f9
  have k5 := k5.fr0 f9
  have k8 := k8.fr0 f9
  have hOx9 := hOx8.fr0 f9
  obtain ⟨⟨Y, yi, ye⟩, hY⟩ : ∃ z, z = mergeQ m.p l := ⟨_, rfl⟩
  rw [← hY] at hxp hyp hmc ⊢
  have hxp : x.p = Y := hxp
  have hyp : y.p = Y := hyp
  have hxl : x.Sm := by
    rcases hmc with ⟨h1, _⟩ | ⟨h1, h2, _⟩
    · exact Sm_p (hxp.trans h1) zM_Sm
    · exact vm_Sm (vm_of (by rw [hxp]; exact h1)) (by rw [show x.V = m.V from (congrArg Md.V hxp).trans h2]; exact hl.V)
  have hyl := Sm_p (hyp.trans hxp.symm) hxl
  refine sA [] rfl ?_
  refine ev_alloc rfl rfl inf41 (fun p11 wa hp11 k11 fa => ?_)
  refine ev_storeAgg tabOk rfl rfl rfl rfl rfl rfl k11 rfl (fun wb k111 fb => ?_)
  have h9b : Fr no w9 wb := fa.trans fb fun z hz e => by have : z = p11 := e; omega
  have k11 : Blk wb p11 (lmC y) 41 := k111
  have k2 := k2.fr0 h9b
  have k5 := k5.fr0 h9b
  have k8 := k8.fr0 h9b
  have hOx := hOx9.fr0 h9b
  have hy := hy.fr0 h9b
  have h6b := (h8.tr f9).tr h9b
  have hib : Fr no wi wb := h6b
  have ht := ht.fr0 h6b
  have hF := hF.tr h6b
  clear k111
  refine sA [] rfl ?_
  refine mixC_in (fun w' => Fr no wb w') mixed (fun v g => ?_)
  refine mix1 rfl rfl ?_ g
  refine ev_call rfl rfl rfl (lAwake17 v) ?_
  rintro r v1 ⟨rfl, g1⟩
  have g := g.tr g1
  refine mix_op ?_
  refine mA rfl (by kernel_rfl) (by kernel_rfl) ?_
  refine m_loadAgg 3 rfl rfl rfl (by kernel_rfl) (by kernel_rfl) rfl rfl tabOk rfl rfl rfl (fun w' h => Cs.of_blk (k8.fr0 h)) ?_
  refine m_loadAgg 5 rfl rfl rfl (by kernel_rfl) (by kernel_rfl) rfl rfl tabOk rfl rfl rfl (fun w' h => Cs.of_blk (k11.fr0 h)) ?_
  refine mix1 rfl rfl ?_ g
  refine ev_call rfl rfl rfl (refOf x v1 (hOx.At.fr0 g) hxl) ?_
  rintro r v2 ⟨u, rfl, hup, hOu⟩
  have g := g.tr hOu.fr
  refine mix_op ?_
  refine mix1 rfl rfl ?_ g
  refine ev_call rfl rfl rfl (refSameM u y v2 hOu.At (hy.fr0 g) (Sm_p hup hxl) hyl) ?_
  rintro r v3 ⟨rfl, g3⟩
  rw [eqB_t (show u.p = y.p by rw [hup, hxp, hyp])]
  have g := g.tr g3
  refine mix_op ?_
  refine mix_run 6 tabOk rfl (by kernel_rfl) (by kernel_rfl) ?_
  rw [show decide (¬ (Y, yi, ye).2.1 = (Y, yi, ye).2.1) = false from decide_eq_false (fun h => h rfl)]
  refine mix_run 5 tabOk rfl (by kernel_rfl) (by kernel_rfl) ?_
  rw [show decide (¬ (Y, yi, ye).2.2 = (Y, yi, ye).2.2) = false from decide_eq_false (fun h => h rfl)]
  refine mA rfl (by kernel_rfl) (by kernel_rfl) ?_
  refine m_loadAgg 20 rfl rfl rfl (by kernel_rfl) (by kernel_rfl) rfl rfl tabOk rfl rfl rfl (fun w' h => Cs.of_blk (k2.fr0 h)) ?_
  refine m_loadAgg 22 rfl rfl rfl (by kernel_rfl) (by kernel_rfl) rfl rfl tabOk rfl rfl rfl (fun w' h => Cs.of_blk (k5.fr0 h)) ?_
  refine mix1 rfl rfl ?_ g
  refine ev_call rfl rfl rfl (refOf m v3 (hm.fr0 (hF.tr g)) hl) ?_
  rintro r v4 ⟨u2, rfl, hup2, hOu2⟩
  have g := g.tr hOu2.fr
  refine mix_op ?_
  refine mix1 rfl rfl ?_ g
  refine ev_call rfl rfl rfl (refSameM u2 t v4 hOu2.At (ht.fr0 g) (Sm_p hup2 hl) htl) ?_
  rintro r v5 ⟨rfl, g5⟩
  rw [eqB_t (show u2.p = t.p by rw [hup2, htp])]
  have g := g.tr g5
  refine mix_op ?_
  refine mA rfl (by kernel_rfl) (by kernel_rfl) ?_
  refine mix_out rfl ?_ g
  have k2 := k2.fr0 g
  have k5 := k5.fr0 g
  have k8 := k8.fr0 g
  have hOx := hOx.fr0 g
  have ht := ht.fr0 g
  have hF := hF.tr g
  refine sC [] rfl ?_; refine sC [] rfl ?_
  refine ev_condD rfl (fun c => ?_) (fun c => ?_)
  · refine sA [] rfl ?_
    exact ret1 (.inr rfl) rfl rfl ⟨rfl, hF⟩
  have hye : ye = 0 := by simpa using c
  have hVx : VM x.p := by
    rcases hmc with ⟨_, h2⟩ | ⟨h1, _, _⟩
    · exact absurd hye h2
    · rw [hxp]; exact vm_of h1
  have hwx : wi.heap.size ≤ v5.heap.size := by have := h6b.size; have := f6.size; have := g.size; omega
  have he4 : 0 < x.e.xs.length := by
    have h1 : (x.e.xs.length : Int) = x.s.voc * x.s.dim := hVx.e
    obtain ⟨⟨a1, a2⟩, _, ⟨a3, a4⟩, _⟩ := hVx.s
    have a1 : 2 ≤ x.s.voc := a1
    have a3 : 2 ≤ x.s.dim := a3
    have h2 : 0 < x.s.voc * x.s.dim := Int.mul_pos (by omega) (by omega)
    omega
  have htx : 1 < x.V.texts.length := by
    have h1 : (x.V.texts.length : Int) = x.s.voc := hVx.voc
    have a1 : 2 ≤ x.s.voc := hVx.s.1.1
    omega
  have hbl0 : 0 < x.bs.length := by
    have h1 : ((x.p.bs).length : Int) = x.s.lay := hVx.lay
    have h2 : 1 ≤ x.s.lay := hVx.s.2.2.2.2.2.2.1.1
    rw [show (x.p.bs).length = x.bs.length from List.length_map _] at h1
    omega
  have hq0 : 0 < x.bs[0].q.xs.length := by
    obtain ⟨d, hd⟩ : ∃ d : Nat, x.s.dim = d := Int.eq_ofNat_of_zero_le (by have := hVx.s.2.2.1.1; have h : 2 ≤ x.s.dim := this; omega)
    have h1 := vm_sq hVx (d := d) hd (pBk x.bs[0]) (List.mem_map_of_mem (List.getElem_mem hbl0))
    have h2 : 2 ≤ x.s.dim := hVx.s.2.2.1.1
    have h3 : 0 < d * d := Nat.mul_pos (by omega) (by omega)
    have h4 : x.bs[0].q.xs.length = d * d := h1.1
    omega
  have hOe := hOx.rows x.e (mem_all1 (by simp))
  have hOq := hOx.rows x.bs[0].q (mem_all2 (List.getElem_mem hbl0) (by simp))
  obtain ⟨ge, heA, hego⟩ := own_at hOe.1 he4
  have hege := hOe.2 ge hego
  obtain ⟨gq, hqA, hqgo⟩ := own_at hOq.1 hq0
  have hqge := hOq.2 gq hqgo
  obtain ⟨gt, htA, htgo⟩ := own_at hOx.txt htx
  have htge := (hOx.ge gt (.inl htgo)).1
  have hce : v5.cell? ⟨ge, 0 + (0 : Int).toNat * 1, none⟩ = some (.int .i8 (x.e.xs.getD 0 0).toInt) := by
    obtain ⟨g', o', e', hc'⟩ := rw_cell hOe.At he4
    rw [heA] at e'
    cases e'
    exact hc'
  refine sA [] rfl ?_; refine ev_loadB rfl rfl tabOk rfl rfl ‹_› (by rfl) ?_
  refine ev_indexAddr rfl rfl tabOk (congrArg (fun z => some (Value.slice z x.e.xs.length x.e.c)) heA) rfl rfl (by omega) (by omega) ?_
  refine ev_load rfl rfl tabOk rfl rfl ‹_› ?_
  refine ev_arithW rfl rfl rfl rfl rfl ?_
  skip
  refine ev_indexAddr rfl rfl tabOk (congrArg (fun z => some (Value.slice z x.e.xs.length x.e.c)) heA) rfl rfl (by omega) (by omega) ?_
  refine ev_storeFlat tabOk rfl rfl rfl rfl rfl rfl hOe.1 hego (by omega) (fun v6 hO6 e6 => ?_)
  have k86 := k8.fr e6 (fun e => blk_own_ne k8 hOe.1 hego (by decide) e)
  have hblk := hOx.blk.fr e6 (fun g hg e => own_apartz hOx.blk hOe.1 (by decide) g hg (by have e : g = ge := e; rw [e]; exact hego))
  have htxt := hOx.txt.fr e6 (fun g hg e => own_apartz hOx.txt hOe.1 (by decide) g hg (by have e : g = ge := e; rw [e]; exact hego))
  have hW6 : Fr (fun c => wi.heap.size ≤ c) v5 v6 := e6.mono fun z _ e => by have e : z = ge := e; rw [e]; exact hege
  obtain ⟨z0, cs0, hOq6, hz0⟩ : ∃ z0 cs0, Own v6 60 1 x.bs[0].q.v x.bs[0].q.xs.length cs0 ∧ cs0[0]? = some (.int .i8 z0) := by
    by_cases e : gq = ge
    · have he : x.bs[0].q = x.e := ap_eq hOx.ap (mem_all2 (List.getElem_mem hbl0) (by simp)) (mem_all1 (by simp)) hqgo (by rw [e]; exact hego)
      rw [he]
      refine ⟨IntKind.i8.wrap ((x.e.xs.getD 0 0).toInt + 1), _, hO6, ?_⟩
      rw [show 0 + Int.toNat 0 * 1 = 0 from rfl, List.getElem?_set_self (by rw [List.length_map]; exact he4)]
    · exact ⟨x.bs[0].q.xs[0].toInt, _, hOq.1.fr e6 (fun g hg y => e (by have y : g = ge := y; rw [hqgo] at hg; cases hg; exact y)), by rw [List.getElem?_map, List.getElem?_eq_getElem hq0]; rfl⟩
  obtain ⟨gb, ob, hbA, hbc⟩ := blk_at (own_cs hblk) hbl0
  have hcq : v6.cell? ⟨gb, ob + (0 : Int).toNat * 17 + 1, none⟩ = some x.bs[0].q.v := hbc.at rfl
  have hcz : v6.cell? ⟨gq, 0 + (0 : Int).toNat * 1, none⟩ = some (.int .i8 z0) := by
    have h := own_cs hOq6
    rw [hqA] at h
    exact h.at hz0
  clear k8
  refine sA [] rfl ?_; refine ev_loadB rfl rfl tabOk rfl rfl ‹_› (by rfl) ?_
  refine ev_indexAddr rfl rfl tabOk (congrArg (fun z => some (Value.slice z x.bs.length x.bc)) hbA) rfl rfl (by omega) (by omega) ?_
  refine sA [] rfl ?_; refine ev_load rfl rfl tabOk rfl rfl ‹_› ?_
  refine ev_indexAddr rfl rfl tabOk (congrArg (fun z => some (Value.slice z x.bs[0].q.xs.length x.bs[0].q.c)) hqA) rfl rfl (by omega) (by omega) ?_
  refine ev_load rfl rfl tabOk rfl rfl ‹_› ?_
  refine ev_arithW rfl rfl rfl rfl rfl ?_
  skip
  refine ev_indexAddr rfl rfl tabOk (congrArg (fun z => some (Value.slice z x.bs[0].q.xs.length x.bs[0].q.c)) hqA) rfl rfl (by omega) (by omega) ?_
  refine ev_storeFlat tabOk rfl rfl rfl rfl rfl rfl hOq6 hqgo (by omega) (fun v7 hO7 e7 => ?_)
  have k87 := k86.fr e7 (fun e => blk_own_ne k86 hOq6 hqgo (by decide) e)
  have htxt7 := htxt.fr e7 (fun g hg e => own_apartz htxt hOq6 (by decide) g hg (by have e : g = gq := e; rw [e]; exact hqgo))
  have hW7 : Fr (fun c => wi.heap.size ≤ c) v5 v7 := hW6.trans e7 fun z _ e => by have e : z = gq := e; rw [e]; exact hqge
  clear k86
  refine sA [] rfl ?_; refine ev_loadB rfl rfl tabOk rfl rfl ‹_› (by rfl) ?_
  refine ev_indexAddr rfl rfl tabOk (congrArg (fun z => some (Value.slice z x.V.texts.length x.tc)) htA) rfl rfl (by omega) (by omega) ?_
  refine ev_storeFlat tabOk rfl rfl rfl rfl rfl rfl htxt7 htgo (by show 0 + Int.toNat 1 * 1 < x.V.texts.length * 1; omega) (fun v8 hO8 e8 => ?_)
  have hW8 : Fr (fun c => wi.heap.size ≤ c) v5 v8 := hW7.trans e8 fun z _ e => by have e : z = gt := e; rw [e]; exact htge
  have hwi : w.heap.size ≤ wi.heap.size := hFi.size
  have hFn : Fr no w v8 := hF.trans hW8 fun z hz e => by have e : wi.heap.size ≤ z := e; omega
  have htn : t.At v8 := hti.fr0 ((hib.tr g).trans hW8 fun z hz e => by have e : wi.heap.size ≤ z := e; omega)
  have k2 := k2.fr hW8 (fun e => by have e : wi.heap.size ≤ p2 := e; omega)
  have k5 := k5.fr hW8 (fun e => by have e : wi.heap.size ≤ p5 := e; omega)
  clear k87
  refine sA [] rfl ?_
  refine mixC_in (fun w' => Fr no v8 w') mixed (fun v g => ?_)
  refine m_loadAgg 0 rfl rfl rfl (by kernel_rfl) (by kernel_rfl) rfl rfl tabOk rfl rfl rfl (fun w' h => Cs.of_blk (k2.fr0 h)) ?_
  refine m_loadAgg 2 rfl rfl rfl (by kernel_rfl) (by kernel_rfl) rfl rfl tabOk rfl rfl rfl (fun w' h => Cs.of_blk (k5.fr0 h)) ?_
  refine mix1 rfl rfl ?_ g
  refine ev_call rfl rfl rfl (refOf m v (hm.fr0 (hFn.tr g)) hl) ?_
  rintro r vb ⟨u3, rfl, hup3, hOu3⟩
  have g := g.tr hOu3.fr
  refine mix_op ?_
  refine mix1 rfl rfl ?_ g
  refine ev_call rfl rfl rfl (refSameM u3 t vb hOu3.At (htn.fr0 g) (Sm_p hup3 hl) htl) ?_
  rintro r vc ⟨rfl, gc⟩
  rw [eqB_t (show u3.p = t.p by rw [hup3, htp])]
  have g := g.tr gc
  refine mix_op ?_
  refine mA rfl (by kernel_rfl) (by kernel_rfl) ?_
  refine mix_out rfl ?_ g
  refine sA [] rfl ?_
  exact ret1 (.inr rfl) rfl rfl ⟨rfl, hFn.tr g⟩
end Go.Wk.Ytdelgnflcfhhkaa
