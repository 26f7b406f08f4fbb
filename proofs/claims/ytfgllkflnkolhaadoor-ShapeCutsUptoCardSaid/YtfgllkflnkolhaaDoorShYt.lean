/-
  Chapter 16: law ShapeCuts.
-/
import Derived.Test.YtfgllkflnkolhaaDoorShYs
set_option linter.unusedVariables false
namespace Go.Wk.YtfgllkflnkolhaaDoor
open Go Go.Wk Go.Proofs

/-- a cut model that is written into -/
structure CS (wc w' : World) (c : LM) (p : Nat) : Prop where
  fr : Fr no wc w'
  k : Blk w' p (lmC c) 51
  own : ∀ r ∈ c.all, ∃ cs, Own w' 56 1 r.v r.xs.length cs
  tx : ∃ cs, Own w' 9 1 (.slice c.tA c.V.texts.length c.tc) c.V.texts.length cs
  bl : ∃ cs, Own w' 60 17 (.slice c.bA c.bs.length c.bc) c.bs.length cs ∧ ∀ i (h : i < c.bs.length), cs[i * 17 + 1]? = some c.bs[i].q.v
theorem CS.row {wc w' w2 w0 w1 : World} {c : LM} {p g : Nat} {r : Rw} {cs : List Value} (h : CS wc w' c p) (ho : OwnS w0 w1 c) (hr : r ∈ c.all) (hg : r.v.ownBlock = some g) (hp : p ≠ g) (hw : wc.heap.size ≤ g)
    (hf : Fr (fun c => c = g) w' w2) (hO : Own w2 56 1 r.v r.xs.length cs) : CS wc w2 c p := by
  obtain ⟨ct, ht⟩ := h.tx
  obtain ⟨cb, hb, hq⟩ := h.bl
  refine ⟨h.fr.trans hf fun z hz e => by have : z = g := e; omega, h.k.fr hf hp, fun r' hr' => ?_, ⟨ct, ht.fr hf fun x hx e => ?_⟩, ⟨cb, hb.fr hf fun x hx e => ?_, hq⟩⟩
  · by_cases e : r'.v.ownBlock = some g
    · have : r' = r := ap_eq ho.ap hr' hr e hg
      rw [this]; exact ⟨cs, hO⟩
    · obtain ⟨c, hc⟩ := h.own r' hr'
      exact ⟨c, hc.fr hf (fun z hz y => e (by have : z = g := y; rw [← this]; exact hz))⟩
  · have e : x = g := e
    exact (ho.ge x (.inl hx)).2 r hr (by rw [e]; exact hg)
  · have e : x = g := e
    exact (ho.ge x (.inr (.inr hx))).2 r hr (by rw [e]; exact hg)
theorem CS.blk {wc w' w2 w0 w1 : World} {c : LM} {p g : Nat} {cs : List Value} (h : CS wc w' c p) (ho : OwnS w0 w1 c) (hg : (Value.slice c.bA c.bs.length c.bc).ownBlock = some g) (hp : p ≠ g) (hw : wc.heap.size ≤ g)
    (hf : Fr (fun c => c = g) w' w2) (hO : Own w2 60 17 (.slice c.bA c.bs.length c.bc) c.bs.length cs) (hq : ∀ i (h : i < c.bs.length), cs[i * 17 + 1]? = some c.bs[i].q.v) : CS wc w2 c p := by
  obtain ⟨ct, ht⟩ := h.tx
  refine ⟨h.fr.trans hf fun z hz e => by have : z = g := e; omega, h.k.fr hf hp, fun r' hr' => ?_, ⟨ct, ht.fr hf fun x hx e => ?_⟩, ⟨cs, hO, hq⟩⟩
  · obtain ⟨c, hc⟩ := h.own r' hr'
    exact ⟨c, hc.fr hf (fun z hz y => by have y : z = g := y; exact (ho.ge g (.inr (.inr hg))).2 r' hr' (by rw [← y]; exact hz))⟩
  · have e : x = g := e
    exact (ho.tm x hx).2 (by rw [e]; exact hg)
theorem CS.txt {wc w' w2 w0 w1 : World} {c : LM} {p g : Nat} {cs : List Value} (h : CS wc w' c p) (ho : OwnS w0 w1 c) (hg : (Value.slice c.tA c.V.texts.length c.tc).ownBlock = some g) (hp : p ≠ g) (hw : wc.heap.size ≤ g)
    (hf : Fr (fun c => c = g) w' w2) (hO : Own w2 9 1 (.slice c.tA c.V.texts.length c.tc) c.V.texts.length cs) : CS wc w2 c p := by
  obtain ⟨cb, hb, hq⟩ := h.bl
  refine ⟨h.fr.trans hf fun z hz e => by have : z = g := e; omega, h.k.fr hf hp, fun r' hr' => ?_, ⟨cs, hO⟩, ⟨cb, hb.fr hf fun x hx e => ?_, hq⟩⟩
  · obtain ⟨c, hc⟩ := h.own r' hr'
    exact ⟨c, hc.fr hf (fun z hz y => by have y : z = g := y; exact (ho.ge g (.inl hg)).2 r' hr' (by rw [← y]; exact hz))⟩
  · have e : x = g := e
    exact (ho.tm g hg).2 (by rw [← e]; exact hx)
theorem own_bc {TM TB : TypeId} {w0 w : World} {m : LM} (h : OwnM TM TB w0 w m) : m.bs.length ≤ m.bc := own_cap h.blk
theorem sm_cut {m c : LM} {k : Int} (h : c.p = (cutQ m.p k).1) (hl : m.Sm) : c.Sm := by
  unfold cutQ at h
  split at h
  · split at h
    · exact Sm_p h zM_Sm
    · exact Sm_p (h.trans (LM.cut_p m _).symm) (hl.cut _)
  · exact Sm_p h zM_Sm
set_option maxHeartbeats 16000000 in
theorem lawCuts (m : LM) (k : Int) (u : LM) (w : World) (hm : m.At w) (hl : m.Sm) (hcap : m.Cap) (hbc : m.bs.length ≤ m.bc) (hu : u.At w) (hl2 : u.Sm) (hT : QT w) :
    CallsF Tryd.prog 10 [lmV m, i64 k, lmV u] w fun z w' => z = .bool true ∧ Fr no w w' := by
  have hbl := hl.bl
  refine callsF Tryd.func10 rfl rfl (by decide) rfl ?_
  refine sA [] rfl ?_
  refine ev_box rfl rfl rfl fun p w1 hp kp f1 => ?_
  have kp : Blk w1 p (lmC m) 51 := kp
  refine ev_box rfl rfl rfl fun pu w2 hpu kpu f2 => ?_
  have kpu : Blk w2 pu (lmC u) 51 := kpu
  have kp2 := kp.fr0 f2
  have hF2 := f1.tr f2
  clear kp
  refine sA [] rfl ?_
  refine ev_call rfl rfl rfl (lAwake w2 (hT.fr0 hF2)) ?_
  rintro r w3 ⟨rfl, f3⟩
  have kp3 := kp2.fr0 f3
  have kpu3 := kpu.fr0 f3
  have hF3 := hF2.tr f3
  clear kp2 kpu
  refine sA [] rfl ?_; refine ev_loadAggB rfl rfl tabOk rfl rfl ‹_› (by rfl) ?_
  refine ev_call rfl rfl rfl (refOf m w3 (hm.fr0 hF3) hl) ?_
  rintro r w4 ⟨t, rfl, htp, hOt⟩
  have htl := Sm_p htp hl
  have htc := hOt.cap
  have htb := own_bc hOt
  skip
  refine ev_alloc rfl rfl inf43 (fun p7 w5 hp7 k7 f5 => ?_)
  refine ev_storeAgg tabOk rfl rfl rfl rfl rfl rfl k7 rfl (fun w6 k7 f6 => ?_)
  have h46 : Fr no w4 w6 := f5.trans f6 fun z hz e => by have : z = p7 := e; omega
  have k7 : Blk w6 p7 (lmC t) 43 := k7
  have h36 := hOt.fr.tr h46
  have kp6 := kp3.fr0 h36
  have kpu6 := kpu3.fr0 h36
  have hF6 := hF3.tr h36
  have ht6 := hOt.At.fr0 h46
  clear kp3 kpu3
  refine sA [] rfl ?_; refine ev_loadAggB rfl rfl tabOk rfl rfl ‹_› (by rfl) ?_; refine sA [] rfl ?_
  refine ev_call rfl rfl rfl (wCut m k w6 (hm.fr0 hF6) hl hcap hbc) ?_
  rintro r w7 ⟨c, rfl, hcp, hOc⟩
  have hcl := sm_cut hcp hl
  have k77 := k7.fr0 hOc.fr
  have kp7 := kp6.fr0 hOc.fr
  have kpu7 := kpu6.fr0 hOc.fr
  have hF7 := hF6.tr hOc.fr
  have ht7 := ht6.fr0 hOc.fr
  have kpK := kp6
  have k7K := k7
  clear k7 kp6 kpu6
  refine sA [] rfl ?_
  refine ev_alloc rfl rfl inf51 (fun p8 w8 hp8 k8 f8 => ?_)
  refine ev_storeAgg tabOk rfl rfl rfl rfl rfl rfl k8 rfl (fun w9 k8 f9 => ?_)
  have h79 : Fr no w7 w9 := f8.trans f9 fun z hz e => by have : z = p8 := e; omega
  have k8 : Blk w9 p8 (lmC c) 51 := k8
  have k79 := k77.fr0 h79
  have kp9 := kp7.fr0 h79
  have kpu9 := kpu7.fr0 h79
  have hF9 := hF7.tr h79
  have ht9 := ht7.fr0 h79
  have hc9 := hOc.At.fr0 h79
  clear k77 kp7 kpu7
  refine sA [] rfl ?_; refine ev_loadAggB rfl rfl tabOk rfl rfl ‹_› (by rfl) ?_; refine sA [] rfl ?_
  refine ev_call rfl rfl rfl (refCut t k w9 ht9 htl htc htb) ?_
  rintro r wa ⟨d, rfl, hdp, hd, fa⟩
  rw [htp] at hdp ⊢
  have hdl : d.Sm := sm_cut (hdp.trans (by rw [← htp])) htl
  have k8a := k8.fr0 fa
  have k7a := k79.fr0 fa
  have kpa := kp9.fr0 fa
  have kpua := kpu9.fr0 fa
  have hFa := hF9.tr fa
  have hta := ht9.fr0 fa
  have hca := hc9.fr0 fa
  clear k8 k79 kp9 kpu9
  refine sA [] rfl ?_
  refine ev_alloc rfl rfl inf43 (fun p10 wb hp10 k10 fb => ?_)
  refine ev_storeAgg tabOk rfl rfl rfl rfl rfl rfl k10 rfl (fun wc k10 fc => ?_)
  have hac : Fr no wa wc := fb.trans fc fun z hz e => by have : z = p10 := e; omega
  have k10 : Blk wc p10 (lmC d) 43 := k10
  have k8c := k8a.fr0 hac
  have k7c := k7a.fr0 hac
  have kpc := kpa.fr0 hac
  have kpuc := kpua.fr0 hac
  have hFc := hFa.tr hac
  have htc' := hta.fr0 hac
  have hcc := hca.fr0 hac
  have hdc := hd.fr0 hac
  clear k8a k7a kpa kpua
  have h7c : Fr no w7 wc := (h79.tr fa).tr hac
  obtain ⟨e, he⟩ : ∃ e, e = (cutQ m.p k).2 := ⟨_, rfl⟩
  rw [← he]
  refine sA [] rfl ?_
  refine ev_join1 (α := Unit) (fun _ => [(1, i64 k), (3, .pointer (some ⟨p, 0, none⟩)), (5, .pointer (some ⟨pu, 0, none⟩)), (7, .pointer (some ⟨p7, 0, none⟩)), (8, .pointer (some ⟨p8, 0, none⟩)), (9, i64 e), (10, .pointer (some ⟨p10, 0, none⟩)), (53, .bool false)]) (fun _ w' => Fr no wc w') ?_ ?_
  · refine mixC_in (fun w' => Fr no wc w') mixed (fun v4 g => ?_)
    refine mix_run 3 tabOk rfl (by kernel_rfl) (by kernel_rfl) ?_
    rw [show decide (¬ e = e) = false from neq_same _]
    refine mA rfl (by kernel_rfl) (by kernel_rfl) ?_
    refine m_loadAgg 4 rfl rfl rfl (by kernel_rfl) (by kernel_rfl) rfl rfl tabOk rfl rfl rfl (fun w' h => Cs.of_blk (k8c.fr0 h)) ?_
    refine m_loadAgg 6 rfl rfl rfl (by kernel_rfl) (by kernel_rfl) rfl rfl tabOk rfl rfl rfl (fun w' h => Cs.of_blk (k10.fr0 h)) ?_
    refine mix1 rfl rfl ?_ g
    refine ev_call rfl rfl rfl (refOf c v4 (hcc.fr0 g) hcl) ?_
    rintro r v5 ⟨t2, rfl, htp2, hOt2⟩
    have g := g.tr hOt2.fr
    refine mix_op ?_
    refine mix1 rfl rfl ?_ g
    refine ev_call rfl rfl rfl (refSameM t2 d v5 hOt2.At (hdc.fr0 g) (Sm_p htp2 hcl) hdl) ?_
    rintro r v6 ⟨rfl, d6⟩
    rw [eqB_t (show t2.p = d.p by rw [htp2, hcp, hdp])]
    have g := g.tr d6
    refine mix_op ?_
    refine mA rfl (by kernel_rfl) (by kernel_rfl) ?_
    refine m_loadAgg 11 rfl rfl rfl (by kernel_rfl) (by kernel_rfl) rfl rfl tabOk rfl rfl rfl (fun w' h => Cs.of_blk (kpc.fr0 h)) ?_
    refine m_loadAgg 13 rfl rfl rfl (by kernel_rfl) (by kernel_rfl) rfl rfl tabOk rfl rfl rfl (fun w' h => Cs.of_blk (k7c.fr0 h)) ?_
    refine mix1 rfl rfl ?_ g
    refine ev_call rfl rfl rfl (refOf m v6 (hm.fr0 (hFc.tr g)) hl) ?_
    rintro r v7 ⟨t3, rfl, htp3, hOt3⟩
    have g := g.tr hOt3.fr
    refine mix_op ?_
    refine mix1 rfl rfl ?_ g
    refine ev_call rfl rfl rfl (refSameM t3 t v7 hOt3.At (htc'.fr0 g) (Sm_p htp3 hl) htl) ?_
    rintro r v8 ⟨rfl, d8⟩
    rw [eqB_t (show t3.p = t.p by rw [htp3, htp])]
    have g := g.tr d8
    refine mix_op ?_
    refine mA rfl (by kernel_rfl) (by kernel_rfl) ?_
    refine mix_out rfl ?_ g
    skip
    exact ev_out () g ⟨rfl, rfl, rfl, rfl, rfl, rfl, rfl, rfl, trivial⟩
  rintro ⟨⟩ wd hcd
  have k8d := k8c.fr0 hcd
  have k7d := k7c.fr0 hcd
  have kpd := kpc.fr0 hcd
  have kpud := kpuc.fr0 hcd
  have hFd := hFc.tr hcd
  have htd := htc'.fr0 hcd
  have h7d := h7c.tr hcd
  clear k8c k7c kpc kpuc k10
  refine sA [] rfl ?_
  refine ev_join1 (α := Unit) (fun _ => [(1, i64 k), (3, .pointer (some ⟨p, 0, none⟩)), (7, .pointer (some ⟨p7, 0, none⟩)), (8, .pointer (some ⟨p8, 0, none⟩)), (9, i64 e), (63, .bool false)]) (fun _ w' => Fr no wd w') ?_ ?_
  · refine mixC_in (fun w' => Fr no wd w') mixed (fun v4 g => ?_)
    refine mA rfl (by kernel_rfl) (by kernel_rfl) ?_
    have huv : ∀ w', Fr no wd w' → Cs w' (some ⟨pu, 0 + 6, none⟩) [.slice u.tA u.V.texts.length u.tc, .slice u.mA u.V.merges.length u.mc] := fun w' h => (Cs.of_blk (kpud.fr0 h)).part 6 fun j u hj => match j, hj with
      | 0, h => h | 1, h => h | n + 2, h => by simp at h
    refine m_loadAgg 0 rfl rfl rfl (by kernel_rfl) (by kernel_rfl) rfl rfl tabOk rfl rfl rfl (fun w' h => Cs.of_blk (kpd.fr0 h)) ?_
    refine m_loadAgg 2 rfl rfl rfl (by kernel_rfl) (by kernel_rfl) rfl rfl tabOk rfl rfl rfl huv ?_
    refine m_loadAgg 4 rfl rfl rfl (by kernel_rfl) (by kernel_rfl) rfl rfl tabOk rfl rfl rfl (fun w' h => Cs.of_blk (k7d.fr0 h)) ?_
    refine m_loadAgg 5 rfl rfl rfl (by kernel_rfl) (by kernel_rfl) rfl rfl tabOk rfl rfl rfl (fun w' h => Cs.of_blk (kpud.fr0 h)) ?_
    refine mix1 rfl rfl ?_ g
    refine ev_call rfl rfl rfl (wFitting m u.tA u.tc u.mA u.mc u.V v4 (hm.fr0 (hFd.tr g)) hl hcap ((hu.fr0 (hFd.tr g)).voc) hl2.V) ?_
    rintro r v5 ⟨rfl, d5⟩
    have g := g.tr d5
    refine mix_op ?_
    refine mix1 rfl rfl ?_ g
    refine ev_call rfl rfl rfl (refOf u v5 (hu.fr0 (hFd.tr g)) hl2) ?_
    rintro r v6 ⟨u2, rfl, hup2, hOu2⟩
    have g := g.tr hOu2.fr
    have hul2 := Sm_p hup2 hl2
    refine mix_op ?_
    refine mA rfl (by kernel_rfl) (by kernel_rfl) ?_
    refine mix1 rfl rfl ?_ g
    refine ev_call rfl rfl rfl (refFitting t u2.tA u2.tc u2.mA u2.mc u2.V v6 (htd.fr0 g) htl htc hOu2.At.voc hul2.V) ?_
    rintro r v7 ⟨rfl, d7⟩
    rw [htp, show u2.V = u.V from congrArg Md.V hup2]
    have g := g.tr d7
    refine mix_op ?_
    rcases Bool.eq_false_or_eq_true (fitQ m.p u.V) with hf | hf
    · rw [hf]
      refine mA rfl (by kernel_rfl) (by kernel_rfl) ?_
      refine mix_out rfl ?_ g
      skip
      exact ev_out () g ⟨rfl, rfl, rfl, rfl, rfl, rfl, trivial⟩
    · rw [hf]
      refine mA rfl (by kernel_rfl) (by kernel_rfl) ?_
      refine mix_out rfl ?_ g
      skip
      exact ev_out () g ⟨rfl, rfl, rfl, rfl, rfl, rfl, trivial⟩
  rintro ⟨⟩ we hde
  have k8e := k8d.fr0 hde
  have k7e := k7d.fr0 hde
  have kpe := kpd.fr0 hde
  have hFe := hFd.tr hde
  have hte := htd.fr0 hde
  have h7e := h7d.tr hde
  clear k8d k7d kpd kpud
  refine sC [] rfl ?_; refine sC [] rfl ?_
  refine ev_condD rfl (fun ce => ?_) (fun ce => ?_)
  · refine sA [] rfl ?_
    exact ret1 (.inr rfl) rfl rfl ⟨rfl, hFe⟩
  have e0 : e = 0 := by simpa using ce
  have hcut : (validQ m.p).2.2 = 0 ∧ ¬ (k < 1 ∨ m.s.lay < k) ∧ c.p = cutP m.p k.toNat := by
    rw [e0] at he
    unfold cutQ at he hcp
    by_cases a : (validQ m.p).2.2 = 0
    · rw [if_pos a] at he hcp
      by_cases b : k < 1 ∨ m.p.s.lay < k
      · rw [if_pos b] at he; cases he
      · rw [if_neg b] at hcp
        exact ⟨a, b, hcp⟩
    · rw [if_neg a] at he; exact absurd he.symm a
  obtain ⟨hval, hkb, hcp2⟩ := hcut
  have hk1 : 1 ≤ k := Int.not_lt.1 fun z => hkb (.inl z)
  have hk2 : k ≤ m.s.lay := Int.not_lt.1 fun z => hkb (.inr z)
  obtain ⟨n, rfl⟩ := Int.eq_ofNat_of_zero_le (show 0 ≤ k by omega)
  rw [Int.toNat_natCast] at hcp2
  have hlay : (1 : Int) ≤ m.s.lay := by omega
  have hcv : (validQ c.p).2.2 = 0 := by rw [hcp2]; exact cut_valid hval (by omega) hk2
  have hcc2 := hOc.cap
  have hcb2 := own_bc hOc
  have hOe := hOc.fr0 h7e
  have hcat := hOe.At
  refine sA [] rfl ?_; refine ev_loadAggB rfl rfl tabOk rfl rfl ‹_› (by rfl) ?_
  refine ev_call rfl rfl rfl (wValid c we hcat hcl.V hcl.bl hcc2) ?_
  rintro r wf ⟨rfl, ff⟩
  obtain ⟨vv1, hvv⟩ : ∃ a, a = validQ c.p := ⟨_, rfl⟩
  rw [← hvv] at hcv ⊢
  have k8f := k8e.fr0 ff
  have k7f := k7e.fr0 ff
  have kpf := kpe.fr0 ff
  refine sA [] rfl ?_
  refine ev_alloc rfl rfl inf63 (fun p12 wg hp12 k12 fg => ?_)
  refine ev_storeAgg tabOk rfl rfl rfl rfl rfl rfl k12 rfl (fun wh k12 fh => ?_)
  have hfh : Fr no wf wh := fg.trans fh fun z hz e => by have : z = p12 := e; omega
  have heh := ff.tr hfh
  have k8h := k8f.fr0 hfh
  have k7h := k7f.fr0 hfh
  have kph := kpf.fr0 hfh
  have hFh := hFe.tr heh
  have hth := hte.fr0 heh
  have h7h := h7e.tr heh
  clear k8e k7e kpe k8f k7f kpf k12
  refine sC [] rfl ?_; refine sD [] rfl ?_; refine sD [] rfl ?_; refine sD [] rfl ?_
  rw [hcv]
  refine ev_loadAggB rfl rfl tabOk rfl rfl ‹_› (by rfl) ?_; refine sA [] rfl ?_
  have hmv : Cs wh (some ⟨p, 0 + 6, none⟩) [.slice m.tA m.V.texts.length m.tc, .slice m.mA m.V.merges.length m.mc] := (Cs.of_blk kph).part 6 fun j u hj => match j, hj with
    | 0, h => h | 1, h => h | n + 2, h => by simp at h
  refine ev_loadAgg rfl rfl tabOk rfl rfl rfl hmv ?_
  have hch := hOe.At.fr0 heh
  refine ev_call rfl rfl rfl (wFitting c m.tA m.tc m.mA m.mc m.V wh hch hcl hcc2 ((hm.fr0 hFh).voc) hl.V) ?_
  rintro r wi ⟨rfl, fi⟩
  have hft : fitQ c.p m.V = true := by
    unfold fitQ
    rw [hvv] at hcv
    rw [decide_eq_true hcv, show c.p.V = m.V from congrArg Md.V hcp2, decide_eq_true (VV.same_refl _)]
    rfl
  rw [hft]
  have k8i := k8h.fr0 fi
  have k7i := k7h.fr0 fi
  have kpi := kph.fr0 fi
  have hFi := hFh.tr fi
  have hti := hth.fr0 fi
  have h7i := h7h.tr fi
  have hci := hch.fr0 fi
  clear k8h k7h kph hmv
  refine sA [] rfl ?_; refine ev_loadAggB rfl rfl tabOk rfl rfl ‹_› (by rfl) ?_
  refine ev_call rfl rfl rfl (wCut c 1 wi hci hcl hcc2 hcb2) ?_
  rintro r wj ⟨x1, rfl, hx1, hO1⟩
  have hcvQ : (validQ c.p).2.2 = 0 := by rw [← hvv]; exact hcv
  have hcl2 : c.p.s.lay = (n : Int) := by rw [hcp2]; rfl
  have hq1 : cutQ c.p 1 = (cutP c.p 1, 0) := by
    unfold cutQ
    rw [if_pos hcvQ, if_neg (by rw [hcl2]; omega)]
    rfl
  have hq2 : cutQ m.p 1 = (cutP m.p 1, 0) := by
    unfold cutQ
    rw [if_pos hval, if_neg (show ¬ ((1 : Int) < 1 ∨ m.p.s.lay < 1) from fun z => by have z : (1 : Int) < 1 ∨ m.s.lay < 1 := z; omega)]
    rfl
  have hl1 := sm_cut hx1 hcl
  rw [hq1] at hx1 ⊢
  have k8j := k8i.fr0 hO1.fr
  have k7j := k7i.fr0 hO1.fr
  have kpj := kpi.fr0 hO1.fr
  refine sA [] rfl ?_
  refine ev_alloc rfl rfl inf51 (fun p14 wk hp14 k14 fk => ?_)
  refine ev_storeAgg tabOk rfl rfl rfl rfl rfl rfl k14 rfl (fun wl k14 fl => ?_)
  have hjl : Fr no wj wl := fk.trans fl fun z hz e => by have : z = p14 := e; omega
  have k14 : Blk wl p14 (lmC x1) 51 := k14
  have hil := hO1.fr.tr hjl
  have k8l := k8j.fr0 hjl
  have k7l := k7j.fr0 hjl
  have kpl := kpj.fr0 hjl
  have hFl := hFi.tr hil
  have htl' := hti.fr0 hil
  have h7l := h7i.tr hil
  have hx1l := hO1.At.fr0 hjl
  clear k8i k7i kpi k8j k7j kpj
  refine sA [] rfl ?_; refine ev_loadAggB rfl rfl tabOk rfl rfl ‹_› (by rfl) ?_
  refine ev_call rfl rfl rfl (wCut m 1 wl (hm.fr0 hFl) hl hcap hbc) ?_
  rintro r wm ⟨x2, rfl, hx2, hO2⟩
  have hl22 := sm_cut hx2 hl
  rw [hq2] at hx2 ⊢
  have k8m := k8l.fr0 hO2.fr
  have k7m := k7l.fr0 hO2.fr
  have kpm := kpl.fr0 hO2.fr
  have k14m := k14.fr0 hO2.fr
  refine sA [] rfl ?_
  refine ev_alloc rfl rfl inf51 (fun p16 wn hp16 k16 fn => ?_)
  refine ev_storeAgg tabOk rfl rfl rfl rfl rfl rfl k16 rfl (fun wo k16 fo => ?_)
  have hmo : Fr no wm wo := fn.trans fo fun z hz e => by have : z = p16 := e; omega
  have k16 : Blk wo p16 (lmC x2) 51 := k16
  have hlo := hO2.fr.tr hmo
  have k8o := k8m.fr0 hmo
  have k7o := k7m.fr0 hmo
  have kpo := kpm.fr0 hmo
  have k14o := k14m.fr0 hmo
  have hFo := hFl.tr hlo
  have hto := htl'.fr0 hlo
  have h7o := h7l.tr hlo
  clear k8l k7l kpl k8m k7m kpm k14 k14m
  refine sA [] rfl ?_; refine ev_loadAggB rfl rfl tabOk rfl rfl ‹_› (by rfl) ?_; refine ev_loadAggB rfl rfl tabOk rfl rfl ‹_› (by rfl) ?_
  refine ev_call rfl rfl rfl (wSameM x1 x2 wo (hx1l.fr0 hlo) (hO2.At.fr0 hmo) hl1 hl22) ?_
  rintro r wp ⟨rfl, fp⟩
  rw [eqB_t (show x1.p = x2.p by rw [hx1, hx2, hcp2]; exact cut_cut _ (by omega))]
  have k8p := k8o.fr0 fp
  have k7p := k7o.fr0 fp
  have kpp := kpo.fr0 fp
  have hFp := hFo.tr fp
  have htp' := hto.fr0 fp
  have h7p := h7o.tr fp
  clear k8o k7o kpo k14o k16
  refine sA [] rfl ?_; refine ev_loadB rfl rfl tabOk rfl rfl ‹_› (by rfl) ?_; refine sA [] rfl ?_
  have hOp := hOc.fr0 h7p
  have hw0 : CS w6 wp c p8 := ⟨hOp.fr, k8p, fun r hr => ⟨_, (hOp.rows r hr).1⟩, ⟨_, hOp.txt⟩, ⟨_, hOp.blk, fun i h => flat_at bkC_len (List.getElem?_eq_getElem h) rfl⟩⟩
  have hge := fun (r : Rw) (hr : r ∈ c.all) (g : Nat) (hg : r.v.ownBlock = some g) => hOc.ge_all hr hg
  have hpg := fun (r : Rw) (hr : r ∈ c.all) (g : Nat) (hg : r.v.ownBlock = some g) => (show p8 ≠ g from fun e => by have := (hOc.rows r hr).lt hg; omega)
  have hl_e := hcl.rows c.e (by simp)
  have hcbl := hcl.bl
  have hctl := hcl.V.texts
  refine ev_loop (α := Nat) (fun i => [(3, .pointer (some ⟨p, 0, none⟩)), (7, .pointer (some ⟨p7, 0, none⟩)), (8, .pointer (some ⟨p8, 0, none⟩)), (104, i64 c.e.xs.length), (105, i64 i)]) (fun i w' => i ≤ c.e.xs.length ∧ CS w6 w' c p8) (fun i => c.e.xs.length - i) 0 ⟨rfl, rfl, rfl, rfl, rfl, trivial⟩ ⟨Nat.zero_le _, hw0⟩ ?_
  clear hw0
  rintro i v4 ⟨hi, hw4⟩
  have hk8 := hw4.k
  refine sC [] rfl ?_; refine sD [] rfl ?_
  refine ev_condD rfl (fun cc => ?_) (fun cc => ?_)
  · have hin : i < c.e.xs.length := by omega
    have hea : c.e ∈ c.all := by simp [LM.all]
    obtain ⟨cs, hc⟩ := hw4.own c.e hea
    obtain ⟨g, hA, hg⟩ := own_at hc hin
    refine sA [] rfl ?_; refine ev_loadB rfl rfl tabOk rfl rfl ‹_› (by rfl) ?_; refine sA [] rfl ?_
    refine ev_indexAddr rfl rfl tabOk (congrArg (fun z => some (Value.slice z c.e.xs.length c.e.c)) hA) rfl rfl (by omega) (by omega) ?_
    refine ev_storeRow tabOk rfl rfl rfl rfl rfl rfl hc hg (by omega) (fun v5 hc5 d5 => ?_)
    have hw5 := hw4.row hOc hea hg (hpg _ hea g hg) (hge _ hea g hg) d5 hc5
    refine sA [] rfl ?_; refine ev_arith rfl rfl rfl rfl rfl (by simp only [lowK, hiK]; omega) ?_; refine sA [] rfl ?_
    refine ev_next (i + 1) (by omega) ⟨by omega, hw5⟩ ⟨rfl, rfl, rfl, rfl, by rw [show ((i + 1 : Nat) : Int) = (i : Int) + 1 by omega]; rfl, trivial⟩
  refine sA [] rfl ?_; refine ev_loadB rfl rfl tabOk rfl rfl ‹_› (by rfl) ?_; refine sA [] rfl ?_
  have hlen : c.bs.length = n := by
    have := valid_lay (m := c) (by rw [← hvv]; exact hcv)
    have e2 : c.s.lay = (n : Int) := hcl2
    omega
  have hpo : PartsOk c.p := (allQ_ok (valid_ok.1 (by rw [← hvv]; exact hcv)).1).2.2
  refine ev_loop (α := Nat) (fun i => [(3, .pointer (some ⟨p, 0, none⟩)), (7, .pointer (some ⟨p7, 0, none⟩)), (8, .pointer (some ⟨p8, 0, none⟩)), (115, i64 c.bs.length), (116, i64 i)]) (fun i w' => i ≤ c.bs.length ∧ CS w6 w' c p8) (fun i => c.bs.length - i) 0 ⟨rfl, rfl, rfl, rfl, rfl, trivial⟩ ⟨Nat.zero_le _, hw4⟩ ?_
  clear hw4 hk8
  rintro i v4 ⟨hi, hw4⟩
  have hk8 := hw4.k
  refine sC [] rfl ?_; refine sD [] rfl ?_
  refine ev_condD rfl (fun cc => ?_) (fun cc => ?_)
  · have hin : i < c.bs.length := by omega
    have hbm := List.getElem_mem hin
    have hqa : c.bs[i].q ∈ c.all := mem_all2 hbm (by simp)
    have hql : 1 ≤ c.bs[i].q.xs.length ∧ c.bs[i].q.xs.length ≤ 1000000000 := by
      have hb := hpo.bs (pBk c.bs[i]) (List.mem_map_of_mem hbm)
      have h2 := (block_ok hb).2.1
      simp only [lenQ, List.all_cons, List.all_nil, Bool.and_true, Bool.and_eq_true, decide_eq_true_eq] at h2
      have h3 : (c.bs[i].q.xs.length : Int) = c.p.s.dim * c.p.s.dim := h2.1
      have hd := (allQ_ok (valid_ok.1 (by rw [← hvv]; exact hcv : (validQ c.p).2.2 = 0)).1).1.2.2.1.1
      have h4 : (2 : Int) * 2 ≤ c.p.s.dim * c.p.s.dim := Int.mul_le_mul hd hd (by omega) (by omega)
      exact ⟨by omega, hcl.bs _ hbm _ (by simp)⟩
    obtain ⟨cs, hc⟩ := hw4.own c.bs[i].q hqa
    obtain ⟨g, hA, hg⟩ := own_at hc (i := 0) (by omega)
    obtain ⟨cb, hB, hq⟩ := hw4.bl
    obtain ⟨gb, hbA, hbg⟩ := own17_at hB hin
    have hcell : v4.cell? ⟨gb, 0 + (i : Int).toNat * 17 + 1, none⟩ = some c.bs[i].q.v := by
      obtain ⟨g2, o2, e2, h2⟩ := own_cs hB (i * 17 + 1) _ (hq i hin)
      rw [hbA] at e2; cases e2
      rw [show 0 + (i : Int).toNat * 17 + 1 = 0 + (i * 17 + 1) by omega]; exact h2
    have hpb : p8 ≠ gb := fun e => by have := hOc.blk.lt hbg; omega
    have hgeb : w6.heap.size ≤ gb := (hOc.ge gb (.inr (.inr hbg))).1
    refine sA [] rfl ?_; refine ev_loadB rfl rfl tabOk rfl rfl ‹_› (by rfl) ?_; refine sA [] rfl ?_
    refine ev_indexAddr rfl rfl tabOk (congrArg (fun z => some (Value.slice z c.bs.length c.bc)) hbA) rfl rfl (by omega) (by omega) ?_
    refine sA [] rfl ?_; refine ev_load rfl rfl tabOk rfl rfl ‹_› ?_
    refine ev_indexAddr rfl rfl tabOk (congrArg (fun z => some (Value.slice z c.bs[i].q.xs.length c.bs[i].q.c)) hA) rfl rfl (by omega) (by omega) ?_
    refine ev_storeRow tabOk rfl rfl rfl rfl rfl rfl hc hg (by omega) (fun v5 hc5 d5 => ?_)
    have hw5 := hw4.row hOc hqa hg (hpg _ hqa g hg) (hge _ hqa g hg) d5 hc5
    have hk8 := hw5.k
    clear hB hq hcell
    obtain ⟨cb, hB, hq⟩ := hw5.bl
    refine sA [] rfl ?_; refine ev_loadB rfl rfl tabOk rfl rfl ‹_› (by rfl) ?_; refine sA [] rfl ?_
    refine ev_indexAddr rfl rfl tabOk (congrArg (fun z => some (Value.slice z c.bs.length c.bc)) hbA) rfl rfl (by omega) (by omega) ?_
    refine sA [] rfl ?_
    refine ev_storeFlat tabOk rfl rfl rfl rfl rfl rfl hB hbg (by show 0 + (i : Int).toNat * 17 + 9 < c.bs.length * 17; omega) (fun v6 hB6 d6 => ?_)
    have hw6 := hw5.blk hOc hbg hpb hgeb d6 hB6 (fun j hj => by
      rw [List.getElem?_set_ne (by show 0 + (i : Int).toNat * 17 + 9 ≠ j * 17 + 1; omega)]; exact hq j hj)
    refine sA [] rfl ?_; refine ev_arith rfl rfl rfl rfl rfl (by simp only [lowK, hiK]; omega) ?_; refine sA [] rfl ?_
    refine ev_next (i + 1) (by omega) ⟨by omega, hw6⟩ ⟨rfl, rfl, rfl, rfl, by rw [show ((i + 1 : Nat) : Int) = (i : Int) + 1 by omega]; rfl, trivial⟩
  refine sA [] rfl ?_; refine ev_loadB rfl rfl tabOk rfl rfl ‹_› (by rfl) ?_; refine sA [] rfl ?_
  refine ev_loop (α := Nat) (fun i => [(3, .pointer (some ⟨p, 0, none⟩)), (7, .pointer (some ⟨p7, 0, none⟩)), (8, .pointer (some ⟨p8, 0, none⟩)), (135, i64 c.V.texts.length), (136, i64 i)]) (fun i w' => i ≤ c.V.texts.length ∧ CS w6 w' c p8) (fun i => c.V.texts.length - i) 0 ⟨rfl, rfl, rfl, rfl, rfl, trivial⟩ ⟨Nat.zero_le _, hw4⟩ ?_
  clear hw4 hk8
  rintro i v4 ⟨hi, hw4⟩
  have hk8 := hw4.k
  refine sC [] rfl ?_; refine sD [] rfl ?_
  refine ev_condD rfl (fun cc => ?_) (fun cc => ?_)
  · have hin : i < c.V.texts.length := by omega
    obtain ⟨cs, hc⟩ := hw4.tx
    obtain ⟨g, hA, hg⟩ := own_at hc hin
    refine sA [] rfl ?_; refine ev_loadB rfl rfl tabOk rfl rfl ‹_› (by rfl) ?_; refine sA [] rfl ?_
    refine ev_indexAddr rfl rfl tabOk (congrArg (fun z => some (Value.slice z c.V.texts.length c.tc)) hA) rfl rfl (by omega) (by omega) ?_
    refine ev_storeRow tabOk rfl rfl rfl rfl rfl rfl hc hg (by omega) (fun v5 hc5 d5 => ?_)
    have hw5 := hw4.txt hOc hg (fun e => by have := hOc.txt.lt hg; omega) (hOc.ge g (.inl hg)).1 d5 hc5
    refine sA [] rfl ?_; refine ev_arith rfl rfl rfl rfl rfl (by simp only [lowK, hiK]; omega) ?_; refine sA [] rfl ?_
    refine ev_next (i + 1) (by omega) ⟨by omega, hw5⟩ ⟨rfl, rfl, rfl, rfl, by rw [show ((i + 1 : Nat) : Int) = (i : Int) + 1 by omega]; rfl, trivial⟩
  have hf4 := hw4.fr
  have hFz := hF6.tr hf4
  have htz := ht6.fr0 hf4
  have kpz := kpK.fr0 hf4
  have k7z := k7K.fr0 hf4
  clear hk8 hw4
  refine sA [] rfl ?_
  refine mixC_in (fun w' => Fr no v4 w') mixed (fun v5 g => ?_)
  refine m_loadAgg 0 rfl rfl rfl (by kernel_rfl) (by kernel_rfl) rfl rfl tabOk rfl rfl rfl (fun w' h => Cs.of_blk (kpz.fr0 h)) ?_
  refine m_loadAgg 2 rfl rfl rfl (by kernel_rfl) (by kernel_rfl) rfl rfl tabOk rfl rfl rfl (fun w' h => Cs.of_blk (k7z.fr0 h)) ?_
  refine mix1 rfl rfl ?_ g
  refine ev_call rfl rfl rfl (refOf m v5 (hm.fr0 (hFz.tr g)) hl) ?_
  rintro r v6 ⟨t4, rfl, htp4, hOt4⟩
  have g := g.tr hOt4.fr
  refine mix_op ?_
  refine mix1 rfl rfl ?_ g
  refine ev_call rfl rfl rfl (refSameM t4 t v6 hOt4.At (htz.fr0 g) (Sm_p htp4 hl) htl) ?_
  rintro r v7 ⟨rfl, d7⟩
  rw [eqB_t (show t4.p = t.p by rw [htp4, htp])]
  have g := g.tr d7
  refine mix_op ?_
  refine mA rfl (by kernel_rfl) (by kernel_rfl) ?_
  refine mix_out rfl ?_ g
  refine sA [] rfl ?_
  exact ret1 (.inr rfl) rfl rfl ⟨rfl, hFz.tr g⟩
end Go.Wk.YtfgllkflnkolhaaDoor
