/-
  Taken for this seat out of ShYl.
-/
import Derived.Test.YtdelgnflcfhhkaaGreatDoorPShYk
set_option linter.unusedVariables false
namespace Go.Wk.YtdelgnflcfhhkaaGreatDoor
open Go Go.Wk Go.Proofs
theorem refSampleNo (s : Shp) (seed : Int) (w : World) (o : ¬ okS s) : CallsF Tryz.prog 66 [shpV s, i64 seed] w fun r w' => r = .tuple #[lmV zM, i64 160] ∧ Fr no w w' := by
  refine callsF Tryz.func66 rfl rfl (by decide) rfl ?_
  refine sA [] rfl ?_
  refine ev_box rfl rfl rfl (fun p2 w1 hp2 hB1 hf1 => ?_)
  have hB1 : Blk w1 p2 (shpC s) _ := hB1
  refine ev_alloc rfl rfl inf56 (fun p4 w2 hp4 hD2 hf2 => ?_)
  have hB2 := hB1.fr0 hf2
  clear hB1
  refine sA [] rfl ?_; refine ev_loadAggB rfl rfl tabOk rfl rfl ‹_› (by rfl) ?_
  refine ev_call rfl rfl rfl (refChk s _) (fun r w3 hr => ?_)
  obtain ⟨rfl, hf3⟩ := hr
  rw [chk_n o]
  have hD3 := hD2.fr0 hf3
  have hF3 := (hf1.tr hf2).tr hf3
  clear hB2 hD2
  refine sA [] rfl ?_
  refine ev_build rfl rfl (v := lmV zM) rfl (fun w => by kernel_rfl) ?_
  refine sA [] rfl ?_
  refine ev_storeAgg tabOk rfl rfl rfl rfl rfl rfl hD3 rfl (fun w4 hD4 hf4 => ?_)
  have hF4 : Fr no w w4 := hF3.trans hf4 fun z hz e => by have : z = p4 := e; have := hf1.size; omega
  refine sA [] rfl ?_
  exact retG tabOk (.inr rfl) rfl [lmV zM, i64 160] ⟨⟨_, rfl, .inl ⟨rfl, _, rfl, rfl, Cs.of_blk hD4⟩⟩, rfl, trivial⟩ ⟨rfl, hF4⟩
set_option maxHeartbeats 16000000 in
set_option maxRecDepth 20000 in
theorem refSampleOk (n c d k l h hh : Nat) (seed : Int) (w : World) (o : okS ⟨n, c, d, k, l, h⟩) (hhh : halfS ⟨n, c, d, k, l, h⟩ = hh) (hseed : -9223372036854775808 ≤ seed ∧ seed ≤ 9223372036854775807) :
    CallsF Tryz.prog 66 [shpV ⟨n, c, d, k, l, h⟩, i64 seed] w fun r w' => ∃ m : LM, r = .tuple #[lmV m, i64 0] ∧ m.p = sampleP ⟨n, c, d, k, l, h⟩ seed ∧ m.At w' ∧ Fr no w w' := by
  have hb := half_bd o
  rw [hhh] at hb
  have hok := o
  obtain ⟨h1, h2, h3, h4, h5, h6, h7, h8⟩ := hok
  simp only at h1 h2 h3 h4 h7 h8
  refine callsF Tryz.func66 rfl rfl (by decide) rfl ?_
  refine sA [] rfl ?_
  refine ev_box rfl rfl rfl (fun p2 w1 hp2 k2 f1 => ?_)
  have k2 : Blk w1 p2 (shpC ⟨n, c, d, k, l, h⟩) 50 := k2
  have hp2l := k2.lt
  refine ev_alloc rfl rfl inf56 (fun p4 w2 hp4 k4 f2 => ?_)
  have k2 := k2.fr0 f2
  have hF := f1.tr f2
  refine sA [] rfl ?_; refine ev_loadAggB rfl rfl tabOk rfl rfl ‹_› (by rfl) ?_
  refine ev_call rfl rfl rfl (refChk ⟨n, c, d, k, l, h⟩ _) (fun r w3 hr => ?_)
  obtain ⟨rfl, f3⟩ := hr
  rw [chk_y o]
  have k2 := k2.fr0 f3
  have k4 := k4.fr0 f3
  have hF := hF.tr f3
  refine sA [] rfl ?_
  refine ev_draw mixed (by kernel_rfl) ?_
  refine qA rfl ?_; refine q_loadB rfl rfl tabOk rfl rfl ‹_› (by rfl) ?_; refine qA rfl ?_; refine q_loadB rfl rfl tabOk rfl rfl ‹_› (by rfl) ?_; refine qA rfl ?_
  refine q_end fun w4 f4 => ?_
  have k2 := k2.fr0 f4
  have k4 := k4.fr0 f4
  have hF := hF.tr f4
  have hp24 : p2 ≠ p4 := by have := f1.size; omega
  have hp2l4 := k2.lt
  have hp4l4 := k4.lt
  have hw4 := hF.size
  have hwp : w.heap.size ≤ p2 ∧ w.heap.size ≤ p4 := by have := f1.size; omega
  have hlv := levQ_le d
  obtain ⟨V, hV⟩ : ∃ V : VV, V = ⟨txts n, mrgs n⟩ := ⟨_, rfl⟩
  refine sA [] rfl ?_
  refine ev_join1 (α := Nat × Option Addr × Nat × Option Addr × Nat × Rw) (fun y => [(1, i64 seed), (2, .pointer (some ⟨p2, 0, none⟩)), (4, .pointer (some ⟨p4, 0, none⟩)), (7, i64 d), (8, i64 h), (9, .pointer (some ⟨y.1, 0, none⟩))])
    (fun y w' => Fr no w4 w' ∧ w4.heap.size ≤ y.1 ∧ Blk w' y.1 (smC n c d k l h (.slice y.2.1 V.texts.length y.2.2.1) (.slice y.2.2.2.1 V.merges.length y.2.2.2.2.1) nilS nilS nilS nilS nilS y.2.2.2.2.2.v nilS (4 + levQ d)) 56 ∧
      Vo w' y.2.1 y.2.2.2.1 V ∧ CsOff y.1 y.2.1 (V.texts.map sv) ∧ CsOff y.1 y.2.2.2.1 (mcs V.merges) ∧ y.2.2.2.2.2.At w' ∧ CsOff y.1 y.2.2.2.2.2.A (y.2.2.2.2.2.xs.map i8v) ∧ y.2.2.2.2.2.xs = gainF d ∧ CsOff p4 y.2.1 (V.texts.map sv) ∧ CsOff p4 y.2.2.2.1 (mcs V.merges) ∧ CsOff p4 y.2.2.2.2.2.A (y.2.2.2.2.2.xs.map i8v)) ?_ ?_
  · refine mixC_in (fun w' => Fr no w4 w') mixed (fun v0 g => ?_)
    refine mA rfl (by kernel_rfl) (by kernel_rfl) ?_
    refine m_loadAgg (xs := shpC ⟨n, c, d, k, l, h⟩) 0 rfl rfl rfl (by kernel_rfl) (by kernel_rfl) rfl rfl tabOk rfl rfl rfl (fun w' hw' => Cs.of_blk (k2.fr0 hw')) ?_
    refine m_load 2 rfl rfl rfl (by kernel_rfl) (by kernel_rfl) rfl rfl tabOk rfl rfl (fun w' hw' => (k2.fr0 hw').cell rfl) ?_
    refine mix2 rfl rfl rfl ?_ ?_ g
    · skip
      refine ev_call rfl rfl rfl (refTexts n _ (by omega)) (fun r v0c hr => ?_)
      obtain ⟨tA, tc, zA, mc, rfl, hVo, f, hVn0⟩ := hr
      rw [← hV] at hVo ⊢
      have hVn0 : ∀ p, p < v0.heap.size → CsOff p tA (V.texts.map sv) ∧ CsOff p zA (mcs V.merges) := by rw [hV]; exact hVn0
      have ot4 := (hVn0 p4 (Nat.lt_of_lt_of_le k4.lt g.size)).1
      have om4 := (hVn0 p4 (Nat.lt_of_lt_of_le k4.lt g.size)).2
      have g := g.tr f
      refine mix_op ?_
      try refine mA rfl (by kernel_rfl) (by kernel_rfl) ?_
      refine mix2 rfl rfl rfl ?_ ?_ g
      · skip
        refine ev_call rfl rfl rfl (refRoot d _ (by omega)) (fun r v0cc hr => ?_)
        obtain ⟨rfl, rfl⟩ := hr
        refine mix_op ?_
        try refine mA rfl (by kernel_rfl) (by kernel_rfl) ?_
        refine m_arith 6 rfl rfl rfl (by kernel_rfl) (by kernel_rfl) rfl rfl rfl rfl rfl (by simp only [lowK, hiK]; omega) ?_
        refine mix2 rfl rfl rfl ?_ ?_ g
        · skip
          refine ev_call rfl rfl rfl (refSameN d _ (by omega)) (fun r v0cc hN => ?_)
          obtain ⟨gr, rfl, hgx, hgo, hgg⟩ := OR.ofN hN (Nat.le_refl _)
          have f := hN.2.2
          have og4 : CsOff p4 gr.A (gr.xs.map i8v) := CsOff.own hgo.1 fun z hz e => by have := hgg z hz; have := k4.lt; have := g.size; omega
          have hg := hgo.At
          have hVo := hVo.fr0 f
          have g := g.tr f
          refine mix_op ?_
          try refine mA rfl (by kernel_rfl) (by kernel_rfl) ?_
          refine m_build (v := .agg ⟨smC n c d k l h (.slice tA V.texts.length tc) (.slice zA V.merges.length mc) nilS nilS nilS nilS nilS gr.v nilS (4 + levQ d)⟩) 9 rfl rfl rfl (by kernel_rfl) (by kernel_rfl) rfl rfl rfl (fun w => by kernel_rfl) ?_
          try refine mA rfl (by kernel_rfl) (by kernel_rfl) ?_
          refine mix1 rfl rfl ?_ g
          refine ev_alloc rfl rfl inf56 (fun p9 v0cca hpa k9 f => ?_)
          have hp9 : w4.heap.size ≤ p9 := Nat.le_trans g.size hpa
          have ot := CsOff.lt hVo.1 hpa
          have om := CsOff.lt hVo.2 hpa
          have hVo := hVo.fr0 f
          have og := CsOff.lt hg hpa
          have hg := Cs.fr0 hg f
          have g := g.tr f
          refine mix_op ?_
          refine mix1 rfl rfl ?_ g
          refine ev_storeAgg tabOk rfl rfl rfl rfl rfl rfl k9 rfl (fun x k9 d1 => ?_)
          have g : Fr no w4 x := g.trans d1 fun z hz e => by have : z = p9 := e; omega
          refine mix_op ?_
          refine mix_out rfl ?_ g
          skip
          exact ev_out (p9, tA, tc, zA, mc, gr) ⟨g, hp9, k9, ⟨ot.keep hVo.1 d1, om.keep hVo.2 d1⟩, ot, om, og.keep hg d1, og, hgx, ot4, om4, og4⟩ ⟨rfl, rfl, rfl, rfl, rfl, rfl, trivial⟩
        · skip
          refine ev_alloc rfl rfl inf56 (fun p9 v0ca hpa k9 f => ?_)
          have hp9 : w4.heap.size ≤ p9 := Nat.le_trans g.size hpa
          have ot := CsOff.lt hVo.1 hpa
          have om := CsOff.lt hVo.2 hpa
          have hVo := hVo.fr0 f
          have g := g.tr f
          refine mix_op ?_
          refine mix1 rfl rfl ?_ g
          refine ev_call rfl rfl rfl (refSameN d _ (by omega)) (fun r v0cac hN => ?_)
          obtain ⟨gr, rfl, hgx, hgo, hgg⟩ := OR.ofN hN (Nat.le_refl _)
          have f := hN.2.2
          have og4 : CsOff p4 gr.A (gr.xs.map i8v) := CsOff.own hgo.1 fun z hz e => by have := hgg z hz; have := k4.lt; have := g.size; omega
          have og : CsOff p9 gr.A (gr.xs.map i8v) := CsOff.own hgo.1 fun z hz e => by have := hgg z hz; have := k9.lt; omega
          have k9 := k9.fr0 f
          have hg := hgo.At
          have hVo := hVo.fr0 f
          have g := g.tr f
          refine mix_op ?_
          try refine mA rfl (by kernel_rfl) (by kernel_rfl) ?_
          refine m_build (v := .agg ⟨smC n c d k l h (.slice tA V.texts.length tc) (.slice zA V.merges.length mc) nilS nilS nilS nilS nilS gr.v nilS (4 + levQ d)⟩) 9 rfl rfl rfl (by kernel_rfl) (by kernel_rfl) rfl rfl rfl (fun w => by kernel_rfl) ?_
          try refine mA rfl (by kernel_rfl) (by kernel_rfl) ?_
          refine mix1 rfl rfl ?_ g
          refine ev_storeAgg tabOk rfl rfl rfl rfl rfl rfl k9 rfl (fun x k9 d1 => ?_)
          have g : Fr no w4 x := g.trans d1 fun z hz e => by have : z = p9 := e; omega
          refine mix_op ?_
          refine mix_out rfl ?_ g
          skip
          exact ev_out (p9, tA, tc, zA, mc, gr) ⟨g, hp9, k9, ⟨ot.keep hVo.1 d1, om.keep hVo.2 d1⟩, ot, om, og.keep hg d1, og, hgx, ot4, om4, og4⟩ ⟨rfl, rfl, rfl, rfl, rfl, rfl, trivial⟩
      · skip
        refine ev_alloc rfl rfl inf56 (fun p9 v0ca hpa k9 f => ?_)
        have hp9 : w4.heap.size ≤ p9 := Nat.le_trans g.size hpa
        have ot := CsOff.lt hVo.1 hpa
        have om := CsOff.lt hVo.2 hpa
        have hVo := hVo.fr0 f
        have g := g.tr f
        refine mix_op ?_
        refine mix1 rfl rfl ?_ g
        refine ev_call rfl rfl rfl (refRoot d _ (by omega)) (fun r v0cac hr => ?_)
        obtain ⟨rfl, rfl⟩ := hr
        refine mix_op ?_
        try refine mA rfl (by kernel_rfl) (by kernel_rfl) ?_
        refine m_arith 6 rfl rfl rfl (by kernel_rfl) (by kernel_rfl) rfl rfl rfl rfl rfl (by simp only [lowK, hiK]; omega) ?_
        refine mix1 rfl rfl ?_ g
        refine ev_call rfl rfl rfl (refSameN d _ (by omega)) (fun r v0cac hN => ?_)
        obtain ⟨gr, rfl, hgx, hgo, hgg⟩ := OR.ofN hN (Nat.le_refl _)
        have f := hN.2.2
        have og4 : CsOff p4 gr.A (gr.xs.map i8v) := CsOff.own hgo.1 fun z hz e => by have := hgg z hz; have := k4.lt; have := g.size; omega
        have og : CsOff p9 gr.A (gr.xs.map i8v) := CsOff.own hgo.1 fun z hz e => by have := hgg z hz; have := k9.lt; omega
        have k9 := k9.fr0 f
        have hg := hgo.At
        have hVo := hVo.fr0 f
        have g := g.tr f
        refine mix_op ?_
        try refine mA rfl (by kernel_rfl) (by kernel_rfl) ?_
        refine m_build (v := .agg ⟨smC n c d k l h (.slice tA V.texts.length tc) (.slice zA V.merges.length mc) nilS nilS nilS nilS nilS gr.v nilS (4 + levQ d)⟩) 9 rfl rfl rfl (by kernel_rfl) (by kernel_rfl) rfl rfl rfl (fun w => by kernel_rfl) ?_
        try refine mA rfl (by kernel_rfl) (by kernel_rfl) ?_
        refine mix1 rfl rfl ?_ g
        refine ev_storeAgg tabOk rfl rfl rfl rfl rfl rfl k9 rfl (fun x k9 d1 => ?_)
        have g : Fr no w4 x := g.trans d1 fun z hz e => by have : z = p9 := e; omega
        refine mix_op ?_
        refine mix_out rfl ?_ g
        skip
        exact ev_out (p9, tA, tc, zA, mc, gr) ⟨g, hp9, k9, ⟨ot.keep hVo.1 d1, om.keep hVo.2 d1⟩, ot, om, og.keep hg d1, og, hgx, ot4, om4, og4⟩ ⟨rfl, rfl, rfl, rfl, rfl, rfl, trivial⟩
    · skip
      refine ev_alloc rfl rfl inf56 (fun p9 v0a hpa k9 f => ?_)
      have hp9 : w4.heap.size ≤ p9 := Nat.le_trans g.size hpa
      have g := g.tr f
      refine mix_op ?_
      refine mix1 rfl rfl ?_ g
      refine ev_call rfl rfl rfl (refTexts n _ (by omega)) (fun r v0ac hr => ?_)
      obtain ⟨tA, tc, zA, mc, rfl, hVo, f, hVn0⟩ := hr
      rw [← hV] at hVo ⊢
      have hVn0 : ∀ p, p < v0a.heap.size → CsOff p tA (V.texts.map sv) ∧ CsOff p zA (mcs V.merges) := by rw [hV]; exact hVn0
      have ot4 := (hVn0 p4 (Nat.lt_of_lt_of_le k4.lt g.size)).1
      have om4 := (hVn0 p4 (Nat.lt_of_lt_of_le k4.lt g.size)).2
      have ot := (hVn0 p9 k9.lt).1
      have om := (hVn0 p9 k9.lt).2
      have g := g.tr f
      have k9 := k9.fr0 f
      refine mix_op ?_
      try refine mA rfl (by kernel_rfl) (by kernel_rfl) ?_
      refine mix1 rfl rfl ?_ g
      refine ev_call rfl rfl rfl (refRoot d _ (by omega)) (fun r v0acc hr => ?_)
      obtain ⟨rfl, rfl⟩ := hr
      refine mix_op ?_
      try refine mA rfl (by kernel_rfl) (by kernel_rfl) ?_
      refine m_arith 6 rfl rfl rfl (by kernel_rfl) (by kernel_rfl) rfl rfl rfl rfl rfl (by simp only [lowK, hiK]; omega) ?_
      refine mix1 rfl rfl ?_ g
      refine ev_call rfl rfl rfl (refSameN d _ (by omega)) (fun r v0acc hN => ?_)
      obtain ⟨gr, rfl, hgx, hgo, hgg⟩ := OR.ofN hN (Nat.le_refl _)
      have f := hN.2.2
      have og4 : CsOff p4 gr.A (gr.xs.map i8v) := CsOff.own hgo.1 fun z hz e => by have := hgg z hz; have := k4.lt; have := g.size; omega
      have og : CsOff p9 gr.A (gr.xs.map i8v) := CsOff.own hgo.1 fun z hz e => by have := hgg z hz; have := k9.lt; omega
      have k9 := k9.fr0 f
      have hg := hgo.At
      have hVo := hVo.fr0 f
      have g := g.tr f
      refine mix_op ?_
      try refine mA rfl (by kernel_rfl) (by kernel_rfl) ?_
      refine m_build (v := .agg ⟨smC n c d k l h (.slice tA V.texts.length tc) (.slice zA V.merges.length mc) nilS nilS nilS nilS nilS gr.v nilS (4 + levQ d)⟩) 9 rfl rfl rfl (by kernel_rfl) (by kernel_rfl) rfl rfl rfl (fun w => by kernel_rfl) ?_
      try refine mA rfl (by kernel_rfl) (by kernel_rfl) ?_
      refine mix1 rfl rfl ?_ g
      refine ev_storeAgg tabOk rfl rfl rfl rfl rfl rfl k9 rfl (fun x k9 d1 => ?_)
      have g : Fr no w4 x := g.trans d1 fun z hz e => by have : z = p9 := e; omega
      refine mix_op ?_
      refine mix_out rfl ?_ g
      skip
      exact ev_out (p9, tA, tc, zA, mc, gr) ⟨g, hp9, k9, ⟨ot.keep hVo.1 d1, om.keep hVo.2 d1⟩, ot, om, og.keep hg d1, og, hgx, ot4, om4, og4⟩ ⟨rfl, rfl, rfl, rfl, rfl, rfl, trivial⟩
  rintro ⟨p9, tA, tc, zA, mc, gain⟩ w5 ⟨h45, hp9, k9, hVo, ot, om, hg, og, hgx, ot4, om4, og4⟩
  dsimp only at hp9 k9 hVo ot om hg og hgx ot4 om4 og4
  have k2 := k2.fr0 h45
  have k4 := k4.fr0 h45
  have hF := hF.tr h45
  have hp2l := k2.lt
  have hp4l := k4.lt
  have hp9l := k9.lt
  have sF := hF.size
  have hn9 : ¬ p2 = p9 ∧ ¬ p4 = p9 ∧ w.heap.size ≤ p9 := by omega
  have hbase : ∀ w', Fr (fun z => z = p9) w5 w' → Blk w' p2 (shpC ⟨n, c, d, k, l, h⟩) 50 ∧ Blk w' p4 (ofC ⟨0, 0, 0, 0, 0, 0⟩ nilS nilS nilS 0 nilS nilS nilS nilS nilS nilS 0) 56 ∧ Vo w' tA zA V ∧ gain.At w' := fun w' hf => ⟨k2.fr hf hn9.1, k4.fr hf hn9.2.1, ⟨ot.keep hVo.1 hf, om.keep hVo.2 hf⟩, og.keep hg hf⟩
  refine sA [] rfl ?_
  refine ev_join1 (α := Rw × Rw) (fun y => [(1, i64 seed), (2, .pointer (some ⟨p2, 0, none⟩)), (4, .pointer (some ⟨p4, 0, none⟩)), (7, i64 d), (8, i64 h), (9, .pointer (some ⟨p9, 0, none⟩))])
    (fun y w' => Fr (fun z => z = p9) w5 w' ∧ Blk w' p9 (smC n c d k l h (.slice tA V.texts.length tc) (.slice zA V.merges.length mc) nilS y.1.v y.2.v nilS nilS gain.v nilS (4 + levQ d)) 56 ∧ NR w5 w' [y.1, y.2] ∧ y.1.xs = cosF c hh ∧ y.2.xs = sinF c hh) ?_ ?_
  · refine mixC_in (fun w' => Fr (fun z => z = p9) w5 w') mixed (fun v0 g => ?_)
    refine mA rfl (by kernel_rfl) (by kernel_rfl) ?_
    refine m_load 1 rfl rfl rfl (by kernel_rfl) (by kernel_rfl) rfl rfl tabOk rfl rfl (fun w' hw' => (hbase w' hw').1.cell rfl) ?_
    refine m_loadAgg (xs := shpC ⟨n, c, d, k, l, h⟩) 2 rfl rfl rfl (by kernel_rfl) (by kernel_rfl) rfl rfl tabOk rfl rfl rfl (fun w' hw' => Cs.of_blk (hbase w' hw').1) ?_
    refine mix1 rfl rfl ?_ (g.mono fun _ _ z => z.elim)
    refine ev_call rfl rfl rfl (refHalf ⟨n, c, d, k, l, h⟩ _) (fun r v1 hr => ?_)
    obtain ⟨rfl, d1⟩ := hr
    rw [hhh]
    have g := g.tr d1
    refine mix_op ?_
    try refine mA rfl (by kernel_rfl) (by kernel_rfl) ?_
    refine mix1 rfl rfl ?_ (g.mono fun _ _ z => z.elim)
    refine ev_call rfl rfl rfl (refRopeTable c hh _ (by omega) (by omega)) (fun r v2 hr => ?_)
    obtain ⟨v, u, rfl, hT8⟩ := hr
    have d2 := hT8.1.2.2
    refine mix_op ?_
    try refine mA rfl (by kernel_rfl) (by kernel_rfl) ?_
    obtain ⟨r1, rfl, x1, q1, y1⟩ := OR.ofN hT8.1 (w0 := w5) g.size
    obtain ⟨r2, rfl, x2, q2, y2⟩ := OR.ofN hT8.2.1 (w0 := w5) g.size
    have g := g.tr d2
    have hq : NR w5 v2 [r1, r2] := ⟨fun r hr => by
      simp only [List.mem_cons, List.not_mem_nil, or_false] at hr
      rcases hr with rfl | rfl
      · exact q1
      · exact q2, by simpa using hT8.2.2⟩
    refine mix1 rfl rfl ?_ (g.mono fun _ _ z => z.elim)
    refine ev_store tabOk rfl rfl rfl rfl rfl (own1 q1.1) (k9.fr0 g) rfl (fun v3 k93 d3 => ?_)
    have g3 : Fr (fun z => z = p9) w5 v3 := (g.mono fun _ _ z => z.elim).trans d3 fun _ _ z => z
    refine mix_op ?_
    try refine mA rfl (by kernel_rfl) (by kernel_rfl) ?_
    refine mix1 rfl rfl ?_ g3
    refine ev_store tabOk rfl rfl rfl rfl rfl (own1 q2.1) k93 rfl (fun v4 k94 d4 => ?_)
    have g4 := g3.trans d4 fun _ _ z => z
    refine mix_op ?_
    refine mix_out rfl ?_ g4
    skip
    exact ev_out (r1, r2) ⟨g4, k94, (hq.fr d3 (hq.ge hp9l)).fr d4 (hq.ge hp9l), x1, x2⟩ ⟨rfl, rfl, rfl, rfl, rfl, rfl, trivial⟩
  rintro ⟨cos, sin⟩ w6 ⟨h56, k9, hq, hcx, hsx⟩
  dsimp only at k9 hq hcx hsx
  refine sA [] rfl ?_
  refine ev_call rfl rfl rfl (refActTable _) (fun r w7 hr => ?_)
  obtain ⟨v, rfl, hN⟩ := hr
  obtain ⟨bend, rfl, hbx, hbo, _⟩ := OR.ofN hN (w0 := w6) (Nat.le_refl _)
  have hq := hq.add hbo hN.2.2 h56.size
  have h57 := h56.tr hN.2.2
  have k9 := k9.fr0 hN.2.2
  refine sA [] rfl ?_
  refine ev_store tabOk rfl rfl rfl rfl rfl (own1 hbo.1) k9 rfl (fun w8 k9 f8 => ?_)
  have hq := hq.fr f8 (hq.ge hp9l)
  have h58 := h57.trans f8 fun _ _ z => z
  have hB2 := (hbase w8 h58).1
  have m1 : 0 ≤ (n : Int) * d ∧ (n : Int) * d ≤ 512 * 64 := mul_bd (by omega) (by omega) (by omega) (by omega)
  have md : 0 ≤ (d : Int) * d ∧ (d : Int) * d ≤ 64 * 64 := mul_bd (by omega) (by omega) (by omega) (by omega)
  have mh : 0 ≤ (h : Int) * d ∧ (h : Int) * d ≤ 256 * 64 := mul_bd (by omega) (by omega) (by omega) (by omega)
  have mh' : 0 ≤ (d : Int) * h ∧ (d : Int) * h ≤ 64 * 256 := mul_bd (by omega) (by omega) (by omega) (by omega)
  have en : (n : Int) * d = ((n * d : Nat) : Int) := (Int.natCast_mul n d).symm
  have ed : (d : Int) * d = ((d * d : Nat) : Int) := (Int.natCast_mul d d).symm
  have eh : (h : Int) * d = ((h * d : Nat) : Int) := (Int.natCast_mul h d).symm
  have eh' : (d : Int) * h = ((d * h : Nat) : Int) := (Int.natCast_mul d h).symm
  refine sA [] rfl ?_
  refine ev_convW rfl rfl tabOk rfl rfl rfl ?_
  rw [seed_eq]
  refine sA [] rfl ?_; refine ev_loadB rfl rfl tabOk rfl rfl ‹_› (by rfl) ?_; refine sA [] rfl ?_; refine ev_arith rfl rfl rfl rfl rfl (by simp only [lowK, hiK]; omega) ?_
  rw [en]
  refine ev_call rfl rfl rfl (refRow (seed64 seed) (n * d) _ (seed64_lt seed) (by omega)) (fun r w9 hr => ?_)
  obtain ⟨v, rfl, hN⟩ := hr
  obtain ⟨e, rfl, hex, heo, _⟩ := OR.ofN hN (w0 := w8) (Nat.le_refl _)
  have hq := hq.add heo hN.2.2 h58.size
  have h59 := h58.tr hN.2.2
  have k9 := k9.fr0 hN.2.2
  clear hB2
  refine sA [] rfl ?_
  refine ev_store tabOk rfl rfl rfl rfl rfl (own1 heo.1) k9 rfl (fun wa k9 fa => ?_)
  have hq : NR w5 wa [cos, sin, bend, e] := hq.fr fa (hq.ge hp9l)
  have h5a := h59.trans fa fun _ _ z => z
  have k9 : Blk wa p9 (smC n c d k l h (.slice tA V.texts.length tc) (.slice zA V.merges.length mc) e.v cos.v sin.v nilS bend.v gain.v nilS (4 + levQ d)) 56 := k9
  obtain ⟨st1, hst1⟩ : ∃ s, s = lcgN (n * d) (seed64 seed) := ⟨_, rfl⟩
  have hst1l : st1 < 18446744073709551616 := by rw [hst1]; exact lcgN_lt (seed64_lt seed) _
  rw [← hst1]
  refine sA [] rfl ?_
  refine ev_loop (α := Nat × Value × List (Bk Rw)) (fun y => [(1, i64 seed), (2, .pointer (some ⟨p2, 0, none⟩)), (4, .pointer (some ⟨p4, 0, none⟩)), (7, i64 d), (8, i64 h), (9, .pointer (some ⟨p9, 0, none⟩)), (10, .int .u64 (layS d h y.1 st1)), (11, i64 y.1)])
    (fun y w' => y.1 ≤ l ∧ y.2.2.length = y.1 ∧ Fr (fun z => z = p9) w5 w' ∧ Blk w' p9 (smC n c d k l h (.slice tA V.texts.length tc) (.slice zA V.merges.length mc) e.v cos.v sin.v y.2.1 bend.v gain.v nilS (4 + levQ d)) 56 ∧
      OM w5 w' y.2.1 nilS nilS ([cos, sin, bend, e] ++ y.2.2.flatMap Bk.rows) ∧ Own w' 86 17 y.2.1 y.2.2.length (y.2.2.flatMap bkC) ∧ y.2.2.map pBk = layF d h y.1 st1) (fun y => l - y.1) (0, nilS, [])
    ⟨rfl, rfl, rfl, rfl, rfl, rfl, rfl, rfl, trivial⟩ ⟨Nat.zero_le _, rfl, h5a, k9, OM.start w5 wa hq, Own.nil _ _ _, rfl⟩ ?_
  clear hq k9 h5a h59 h58 h57 h56
  rintro ⟨j, bv, bs⟩ u1 ⟨hj, hjl, h5u, k9, hom, hbk, hbx'⟩
  dsimp only at hj hjl k9 hom hbk hbx' ⊢
  have hB2 := (hbase u1 h5u).1
  have sz := h5u.size
  refine sA [] rfl ?_; refine ev_loadB rfl rfl tabOk rfl rfl ‹_› (by rfl) ?_; refine sD [] rfl ?_; refine sD [] rfl ?_
  refine ev_condD rfl (fun cj => ?_) (fun cj => ?_)
  · have hjl2 : j < l := by have cj : (j : Int) < (l : Int) := cj; omega
    have hs0 := layS_lt (d := d) (h := h) hst1l j
    obtain ⟨s0, hs00⟩ : ∃ s, s = layS d h j st1 := ⟨_, rfl⟩
    rw [← hs00] at hs0 ⊢
    have hq := NR.nil u1 u1
    have g := Fr.refl no u1
    clear hB2
    refine sA [] rfl ?_
    refine ev_call rfl rfl rfl (refSameN d _ (by omega)) (fun r u2 hN => ?_)
    obtain ⟨r1, rfl, x1, q1, _⟩ := OR.ofN hN (Nat.le_refl _)
    have hq := hq.add q1 hN.2.2 g.size
    have g := g.tr hN.2.2
    refine sA [] rfl ?_
    refine ev_call rfl rfl rfl (refSameN d _ (by omega)) (fun r u3 hN => ?_)
    obtain ⟨r2, rfl, x2, q2, _⟩ := OR.ofN hN (Nat.le_refl _)
    have hq := hq.add q2 hN.2.2 g.size
    have g := g.tr hN.2.2
    have hlv2 := levQ_le h
    refine sA [] rfl ?_
    refine ev_call rfl rfl rfl (refRoot d _ (by omega)) (fun r u4 hr => ?_)
    obtain ⟨rfl, rfl⟩ := hr
    refine ev_arith rfl rfl rfl rfl rfl (by simp only [lowK, hiK]; omega) ?_; refine sA [] rfl ?_
    refine ev_call rfl rfl rfl (refRoot d _ (by omega)) (fun r u4 hr => ?_)
    obtain ⟨rfl, rfl⟩ := hr
    refine ev_arith rfl rfl rfl rfl rfl (by simp only [lowK, hiK]; omega) ?_; refine sA [] rfl ?_
    refine ev_call rfl rfl rfl (refRoot d _ (by omega)) (fun r u4 hr => ?_)
    obtain ⟨rfl, rfl⟩ := hr
    refine ev_arith rfl rfl rfl rfl rfl (by simp only [lowK, hiK]; omega) ?_; refine sA [] rfl ?_
    refine ev_call rfl rfl rfl (refRoot d _ (by omega)) (fun r u4 hr => ?_)
    obtain ⟨rfl, rfl⟩ := hr
    refine ev_arith rfl rfl rfl rfl rfl (by simp only [lowK, hiK]; omega) ?_
    refine ev_build rfl rfl (v := .agg ⟨bkX d r1.v nilS nilS nilS nilS r2.v nilS nilS nilS 0 0 0⟩) rfl (fun w => by kernel_rfl) ?_
    refine ev_alloc rfl rfl inf86 (fun pc u5 hpc kc f5 => ?_)
    refine ev_storeAgg tabOk rfl rfl rfl rfl rfl rfl kc rfl (fun u6 kc f6 => ?_)
    have hpcu : u1.heap.size ≤ pc := Nat.le_trans g.size hpc
    have hne := NP.start hq hpc
    have hq := (hq.fr0 f5).fr f6 (fun r hr g hg e => hne r hr g hg e)
    have g : Fr no u1 u6 := (g.tr f5).trans f6 fun z hz e => by have : z = pc := e; omega
    refine sA [] rfl ?_
    refine ev_call rfl rfl rfl (refRoot d _ (by omega)) (fun r u7 hr => ?_)
    obtain ⟨rfl, rfl⟩ := hr
    refine ev_arith rfl rfl rfl rfl rfl (by simp only [lowK, hiK]; omega) ?_; refine sA [] rfl ?_
    refine ev_call rfl rfl rfl (refRoot d _ (by omega)) (fun r u7 hr => ?_)
    obtain ⟨rfl, rfl⟩ := hr
    refine ev_arith rfl rfl rfl rfl rfl (by simp only [lowK, hiK]; omega) ?_; refine sA [] rfl ?_
    refine ev_call rfl rfl rfl (refRoot h _ (by omega)) (fun r u7 hr => ?_)
    obtain ⟨rfl, rfl⟩ := hr
    refine ev_arith rfl rfl rfl rfl rfl (by simp only [lowK, hiK]; omega) ?_; refine sA [] rfl ?_
    refine ev_store tabOk rfl rfl rfl rfl rfl rfl kc rfl (fun y1 kc d1 => ?_)
    refine sA [] rfl ?_
    refine ev_store tabOk rfl rfl rfl rfl rfl rfl kc rfl (fun y2 kc d2 => ?_)
    refine sA [] rfl ?_
    refine ev_store tabOk rfl rfl rfl rfl rfl rfl kc rfl (fun z0 kc d3 => ?_)
    have hf : Fr (fun z => z = pc) _ z0 := (d1.trans d2 fun _ _ z => z).trans d3 fun _ _ z => z
    have hq : NR u1 z0 [r1, r2] := hq.fr hf (fun r hr g hg e => hne r hr g hg e)
    have hne : NP pc [r1, r2] := hne
    have g : Fr no u1 z0 := g.trans hf fun z hz e => by have : z = pc := e; omega
    have kc : Blk z0 pc (bkX d r1.v nilS nilS nilS nilS r2.v nilS nilS nilS (7 + levQ d) (7 + levQ d) (4 + levQ h)) 86 := kc
    clear d1 d2 d3 hf f5 f6
    have hl0 : s0 < 18446744073709551616 := hs0
    have hl1 : (lcgN (d * d) s0) < 18446744073709551616 := lcgN_lt hl0 _
    have hl2 : (lcgN (d * d) (lcgN (d * d) s0)) < 18446744073709551616 := lcgN_lt hl1 _
    have hl3 : (lcgN (d * d) (lcgN (d * d) (lcgN (d * d) s0))) < 18446744073709551616 := lcgN_lt hl2 _
    have hl4 : (lcgN (d * d) (lcgN (d * d) (lcgN (d * d) (lcgN (d * d) s0)))) < 18446744073709551616 := lcgN_lt hl3 _
    have hl5 : (lcgN (h * d) (lcgN (d * d) (lcgN (d * d) (lcgN (d * d) (lcgN (d * d) s0))))) < 18446744073709551616 := lcgN_lt hl4 _
    have hl6 : (lcgN (h * d) (lcgN (h * d) (lcgN (d * d) (lcgN (d * d) (lcgN (d * d) (lcgN (d * d) s0)))))) < 18446744073709551616 := lcgN_lt hl5 _
    refine sA [] rfl ?_; refine ev_arith rfl rfl rfl rfl rfl (by simp only [lowK, hiK]; omega) ?_
    rw [ed]
    refine ev_call rfl rfl rfl (refRow s0 (d * d) _ hl0 (by omega)) (fun r a0 hr => ?_)
    obtain ⟨v, rfl, hN⟩ := hr
    obtain ⟨r3, rfl, x3, q3, _⟩ := OR.ofN hN (Nat.le_refl _)
    have hq := hq.add q3 hN.2.2 g.size
    have hne := hne.add kc.lt q3
    have kc := kc.fr0 hN.2.2
    have g := g.tr hN.2.2
    refine sA [] rfl ?_
    refine ev_store tabOk rfl rfl rfl rfl rfl (own1 q3.1) kc rfl (fun b0 kc d1 => ?_)
    have hq := hq.fr d1 (fun r hr g hg e => hne r hr g hg e)
    have g : Fr no u1 b0 := g.trans d1 fun z hz e => by have : z = pc := e; omega
    refine sA [] rfl ?_; refine ev_arith rfl rfl rfl rfl rfl (by simp only [lowK, hiK]; omega) ?_
    rw [ed]
    refine ev_call rfl rfl rfl (refRow (lcgN (d * d) s0) (d * d) _ hl1 (by omega)) (fun r a1 hr => ?_)
    obtain ⟨v, rfl, hN⟩ := hr
    obtain ⟨r4, rfl, x4, q4, _⟩ := OR.ofN hN (Nat.le_refl _)
    have hq := hq.add q4 hN.2.2 g.size
    have hne := hne.add kc.lt q4
    have kc := kc.fr0 hN.2.2
    have g := g.tr hN.2.2
    refine sA [] rfl ?_
    refine ev_store tabOk rfl rfl rfl rfl rfl (own1 q4.1) kc rfl (fun b1 kc d1 => ?_)
    have hq := hq.fr d1 (fun r hr g hg e => hne r hr g hg e)
    have g : Fr no u1 b1 := g.trans d1 fun z hz e => by have : z = pc := e; omega
    refine sA [] rfl ?_; refine ev_arith rfl rfl rfl rfl rfl (by simp only [lowK, hiK]; omega) ?_
    rw [ed]
    refine ev_call rfl rfl rfl (refRow (lcgN (d * d) (lcgN (d * d) s0)) (d * d) _ hl2 (by omega)) (fun r a2 hr => ?_)
    obtain ⟨v, rfl, hN⟩ := hr
    obtain ⟨r5, rfl, x5, q5, _⟩ := OR.ofN hN (Nat.le_refl _)
    have hq := hq.add q5 hN.2.2 g.size
    have hne := hne.add kc.lt q5
    have kc := kc.fr0 hN.2.2
    have g := g.tr hN.2.2
    refine sA [] rfl ?_
    refine ev_store tabOk rfl rfl rfl rfl rfl (own1 q5.1) kc rfl (fun b2 kc d1 => ?_)
    have hq := hq.fr d1 (fun r hr g hg e => hne r hr g hg e)
    have g : Fr no u1 b2 := g.trans d1 fun z hz e => by have : z = pc := e; omega
    refine sA [] rfl ?_; refine ev_arith rfl rfl rfl rfl rfl (by simp only [lowK, hiK]; omega) ?_
    rw [ed]
    refine ev_call rfl rfl rfl (refRow (lcgN (d * d) (lcgN (d * d) (lcgN (d * d) s0))) (d * d) _ hl3 (by omega)) (fun r a3 hr => ?_)
    obtain ⟨v, rfl, hN⟩ := hr
    obtain ⟨r6, rfl, x6, q6, _⟩ := OR.ofN hN (Nat.le_refl _)
    have hq := hq.add q6 hN.2.2 g.size
    have hne := hne.add kc.lt q6
    have kc := kc.fr0 hN.2.2
    have g := g.tr hN.2.2
    refine sA [] rfl ?_
    refine ev_store tabOk rfl rfl rfl rfl rfl (own1 q6.1) kc rfl (fun b3 kc d1 => ?_)
    have hq := hq.fr d1 (fun r hr g hg e => hne r hr g hg e)
    have g : Fr no u1 b3 := g.trans d1 fun z hz e => by have : z = pc := e; omega
    refine sA [] rfl ?_; refine ev_arith rfl rfl rfl rfl rfl (by simp only [lowK, hiK]; omega) ?_
    rw [eh]
    refine ev_call rfl rfl rfl (refRow (lcgN (d * d) (lcgN (d * d) (lcgN (d * d) (lcgN (d * d) s0)))) (h * d) _ hl4 (by omega)) (fun r a4 hr => ?_)
    obtain ⟨v, rfl, hN⟩ := hr
    obtain ⟨r7, rfl, x7, q7, _⟩ := OR.ofN hN (Nat.le_refl _)
    have hq := hq.add q7 hN.2.2 g.size
    have hne := hne.add kc.lt q7
    have kc := kc.fr0 hN.2.2
    have g := g.tr hN.2.2
    refine sA [] rfl ?_
    refine ev_store tabOk rfl rfl rfl rfl rfl (own1 q7.1) kc rfl (fun b4 kc d1 => ?_)
    have hq := hq.fr d1 (fun r hr g hg e => hne r hr g hg e)
    have g : Fr no u1 b4 := g.trans d1 fun z hz e => by have : z = pc := e; omega
    refine sA [] rfl ?_; refine ev_arith rfl rfl rfl rfl rfl (by simp only [lowK, hiK]; omega) ?_
    rw [eh]
    refine ev_call rfl rfl rfl (refRow (lcgN (h * d) (lcgN (d * d) (lcgN (d * d) (lcgN (d * d) (lcgN (d * d) s0))))) (h * d) _ hl5 (by omega)) (fun r a5 hr => ?_)
    obtain ⟨v, rfl, hN⟩ := hr
    obtain ⟨r8, rfl, x8, q8, _⟩ := OR.ofN hN (Nat.le_refl _)
    have hq := hq.add q8 hN.2.2 g.size
    have hne := hne.add kc.lt q8
    have kc := kc.fr0 hN.2.2
    have g := g.tr hN.2.2
    refine sA [] rfl ?_
    refine ev_store tabOk rfl rfl rfl rfl rfl (own1 q8.1) kc rfl (fun b5 kc d1 => ?_)
    have hq := hq.fr d1 (fun r hr g hg e => hne r hr g hg e)
    have g : Fr no u1 b5 := g.trans d1 fun z hz e => by have : z = pc := e; omega
    refine sA [] rfl ?_; refine ev_arith rfl rfl rfl rfl rfl (by simp only [lowK, hiK]; omega) ?_
    rw [eh']
    refine ev_call rfl rfl rfl (refRow (lcgN (h * d) (lcgN (h * d) (lcgN (d * d) (lcgN (d * d) (lcgN (d * d) (lcgN (d * d) s0)))))) (d * h) _ hl6 (by omega)) (fun r a6 hr => ?_)
    obtain ⟨v, rfl, hN⟩ := hr
    obtain ⟨r9, rfl, x9, q9, _⟩ := OR.ofN hN (Nat.le_refl _)
    have hq := hq.add q9 hN.2.2 g.size
    have hne := hne.add kc.lt q9
    have kc := kc.fr0 hN.2.2
    have g := g.tr hN.2.2
    refine sA [] rfl ?_
    refine ev_store tabOk rfl rfl rfl rfl rfl (own1 q9.1) kc rfl (fun b6 kc d1 => ?_)
    have hq := hq.fr d1 (fun r hr g hg e => hne r hr g hg e)
    have g : Fr no u1 b6 := g.trans d1 fun z hz e => by have : z = pc := e; omega
    have kc : Blk b6 pc (bkX d r1.v r3.v r4.v r5.v r6.v r2.v r7.v r8.v r9.v (7 + levQ d) (7 + levQ d) (4 + levQ h)) 86 := kc
    have hq : NR u1 b6 [r1, r2, r3, r4, r5, r6, r7, r8, r9] := hq
    obtain ⟨bn, hbn⟩ : ∃ bn : Bk Rw, bn = ⟨r1, r3, r4, r5, r6, r2, 7 + levQ d, 7 + levQ d, 7 + levQ d, 4 + levQ d, 3, r7, r8, r9, 7 + levQ d, 7 + levQ d, 4 + levQ h⟩ := ⟨_, rfl⟩
    have hbp : pBk bn = blkF d h s0 := by
      rw [hbn]
      simp only [Bk.map, x1, x2, x3, x4, x5, x6, x7, x8, x9]
      rfl
    have kc : Blk b6 pc (bkC bn) 86 := by rw [hbn]; exact kc
    have hqn : NR u1 b6 bn.rows := by rw [hbn]; exact hq
    have hom2 := hom.app g hqn sz
    have hom1 := hom.fr0 g
    have hbk1 := hbk.fr0 g
    have k9 := k9.fr0 g
    have h5b := h5u.tr g
    have hlo : ∀ z, bv.ownBlock = some z → w5.heap.size ≤ z := fun z hz => (hom.lo bv (by simp) z hz).1
    clear hq hqn hom hbk hne
    refine sA [] rfl ?_; refine ev_loadB rfl rfl tabOk rfl rfl ‹_› (by rfl) ?_; refine ev_loadAggB rfl rfl tabOk rfl rfl ‹_› (by rfl) ?_
    refine ev_append1 (vs := [bkV bn]) tabOk rfl rfl (fun _ => rfl) rfl rfl inf86 rfl (by omega) (fun _ => rfl) rfl rfl (fun v hv => by rw [List.mem_singleton.1 hv]; rfl) (allOne_ok rfl) rfl hbk1 (by omega) (fun bv' c1 bq hB1 e1 n1 => ?_)
    have hom3 := hom2.setB e1 n1 (fun z hz => hB1.lt hz) h5b.size
    have k91 := k9.fr e1 (fun z => by have := hlo p9 z; omega)
    have h5c : Fr (fun z => z = p9) w5 c1 := h5b.trans e1 fun z hz y => by have := hlo z y; omega
    have hlo' : ∀ z, bv'.ownBlock = some z → w5.heap.size ≤ z := fun z hz => (hom3.lo bv' (by simp) z hz).1
    refine sA [] rfl ?_
    refine ev_store tabOk rfl rfl rfl rfl rfl (own1 hB1) k91 rfl (fun c2 k92 e2 => ?_)
    have k92 : Blk c2 p9 (smC n c d k l h (.slice tA V.texts.length tc) (.slice zA V.merges.length mc) e.v cos.v sin.v bv' bend.v gain.v nilS (4 + levQ d)) 56 := k92
    have h5d : Fr (fun z => z = p9) w5 c2 := h5c.trans e2 fun _ _ z => z
    refine sA [] rfl ?_; refine ev_arith rfl rfl rfl rfl rfl (by simp only [lowK, hiK]; omega) ?_; refine sA [] rfl ?_
    refine fun a hA => ⟨(j + 1, bv', bs ++ [bn]), by show l - (j + 1) < l - j; omega, ⟨by show j + 1 ≤ l; omega, by show (bs ++ [bn]).length = j + 1; rw [List.length_append, hjl]; rfl, h5d, k92, ?_, ?_, ?_⟩, hA.sub ⟨rfl, rfl, rfl, rfl, rfl, rfl, ?_, by show _ = some (i64 ((j + 1 : Nat) : Int)); rw [show ((j + 1 : Nat) : Int) = (j : Int) + 1 by omega]; rfl, trivial⟩⟩
    · show OM w5 c2 bv' nilS nilS ([cos, sin, bend, e] ++ (bs ++ [bn]).flatMap Bk.rows)
      have := hom3.old hp9l e2
      rw [List.flatMap_append, List.flatMap_cons, List.flatMap_nil, List.append_nil, ← List.append_assoc]; exact this
    · show Own c2 86 17 bv' (bs ++ [bn]).length ((bs ++ [bn]).flatMap bkC)
      rw [flat_app1, List.length_append]
      exact hB1.fr e2 (fun z hz y => by have : z = p9 := y; have := hlo' z hz; omega)
    · show (bs ++ [bn]).map pBk = layF d h (j + 1) st1
      rw [List.map_append, hbx', layF_succ, ← hs00]
      show _ ++ [pBk bn] = _
      rw [hbp]
    · show _ = some (Value.int .u64 (layS d h (j + 1) st1))
      rw [show layS d h (j + 1) st1 = blkS d h s0 by rw [hs00]; rfl]
      rfl
  obtain rfl : j = l := by have cj : ¬ (j : Int) < (l : Int) := cj; omega
  have hsj := layS_lt (d := d) (h := h) hst1l j
  refine sA [] rfl ?_; refine ev_loadB rfl rfl tabOk rfl rfl ‹_› (by rfl) ?_; refine sA [] rfl ?_; refine ev_arith rfl rfl rfl rfl rfl (by simp only [lowK, hiK]; omega) ?_
  rw [en]
  refine ev_call rfl rfl rfl (refRow (layS d h j st1) (n * d) _ hsj (by omega)) (fun r u2 hr => ?_)
  obtain ⟨v, rfl, hN⟩ := hr
  obtain ⟨un, rfl, hux, huo, _⟩ := OR.ofN hN (w0 := u1) (Nat.le_refl _)
  have hom := hom.fr0 hN.2.2
  have hbk := hbk.fr0 hN.2.2
  have h5u := h5u.tr hN.2.2
  have k9 := k9.fr0 hN.2.2
  clear hB2
  obtain ⟨bA, bc, rfl, _⟩ := hbk.slice
  refine sA [] rfl ?_
  refine ev_store tabOk rfl rfl rfl rfl rfl (own1 huo.1) k9 rfl (fun u3 k9 e3 => ?_)
  have hom := hom.old hp9l e3
  have hbk := hbk.fr e3 (fun z hz y => by have : z = p9 := y; have := (hom.lo _ (List.mem_cons_self ..) z hz).1; omega)
  have huo := huo.fr e3 (fun z hz y => by have : z = p9 := y; have := huo.2 z hz; omega)
  have h5u := h5u.trans e3 fun _ _ z => z
  obtain ⟨b2, b4, bV, bg⟩ := hbase u3 h5u
  obtain ⟨m, hm⟩ : ∃ m : LM, m = ⟨⟨n, c, d, k, j, h⟩, tA, tc, zA, mc, V, e, 2, cos, sin, bA, bc, bs, bend, gain, un, 4 + levQ d⟩ := ⟨_, rfl⟩
  have k9 : Blk u3 p9 (lmC m) 56 := by rw [hm]; exact k9
  have hat : m.At u3 := by
    rw [hm]
    refine ⟨bV, fun r hr => ?_, own_cs hbk, fun b hb r hr => ?_⟩
    · simp only [List.mem_cons, List.not_mem_nil, or_false] at hr
      rcases hr with rfl | rfl | rfl | rfl | rfl | rfl
      · exact hom.q.At (by simp)
      · exact hom.q.At (by simp)
      · exact hom.q.At (by simp)
      · exact hom.q.At (by simp)
      · exact bg
      · exact huo.At
    · exact hom.q.At (List.mem_append.2 (.inr (List.mem_flatMap.2 ⟨b, hb, hr⟩)))
  have hmp : m.p = sampleP ⟨n, c, d, k, j, h⟩ seed := by
    rw [hm]
    unfold sampleP LM.p
    simp only [Int.toNat_natCast, hhh, hex, hcx, hsx, hbx', hbx, hgx, hux, hV, hst1]
  have hoff : m.Off p4 := by
    have e4 : p4 < w5.heap.size := hp4l
    have hr5 : ∀ r ∈ [cos, sin, bend, e] ++ bs.flatMap Bk.rows, CsOff p4 r.A (r.xs.map i8v) := fun r hr => CsOff.own (hom.q.rows r hr).1 fun g hg y => by have := (hom.q.rows r hr).2 g hg; omega
    rw [hm]
    refine ⟨ot4, om4, CsOff.own hbk fun g hg y => by have := (hom.lo _ (List.mem_cons_self ..) g hg).1; omega, fun r hr => ?_, fun b hb r hr => hr5 r (List.mem_append.2 (.inr (List.mem_flatMap.2 ⟨b, hb, hr⟩)))⟩
    simp only [List.mem_cons, List.not_mem_nil, or_false] at hr
    rcases hr with rfl | rfl | rfl | rfl | rfl | rfl
    · exact hr5 _ (by simp)
    · exact hr5 _ (by simp)
    · exact hr5 _ (by simp)
    · exact hr5 _ (by simp)
    · exact og4
    · exact CsOff.own huo.1 fun g hg y => by have := huo.2 g hg; have := h5u.size; omega
  clear hm
  refine sA [] rfl ?_; refine ev_loadAggB rfl rfl tabOk rfl rfl ‹_› (by rfl) ?_
  refine ev_storeAgg tabOk rfl rfl rfl rfl rfl rfl b4 rfl (fun wz kz fz => ?_)
  have hFz : Fr no w wz := (hF.trans h5u fun z hz y => by have : z = p9 := y; omega).trans fz fun z hz y => by have : z = p4 := y; omega
  refine sA [] rfl ?_
  exact retG tabOk (.inr rfl) rfl [lmV m, i64 0] ⟨⟨_, rfl, .inl ⟨rfl, _, rfl, rfl, Cs.of_blk kz⟩⟩, rfl, trivial⟩ ⟨m, rfl, hmp, hat.off hoff fz, hFz⟩
theorem refSample (s : Shp) (seed : Int) (w : World) (o : okS s) (hseed : -9223372036854775808 ≤ seed ∧ seed ≤ 9223372036854775807) :
    CallsF Tryz.prog 66 [shpV s, i64 seed] w fun r w' => ∃ m : LM, r = .tuple #[lmV m, i64 0] ∧ m.p = sampleP s seed ∧ m.At w' ∧ Fr no w w' := by
  have o' := o
  have hh := half_bd o
  obtain ⟨⟨a1, a2⟩, ⟨b1, b2⟩, ⟨d1, d2⟩, k1, k2, k3, ⟨e1, e2⟩, f1, f2⟩ := o
  obtain ⟨v, c, d, k, l, h⟩ := s
  obtain ⟨v, rfl⟩ := Int.eq_ofNat_of_zero_le (show 0 ≤ v by exact Int.le_trans (by decide) a1)
  obtain ⟨c, rfl⟩ := Int.eq_ofNat_of_zero_le (show 0 ≤ c by exact Int.le_trans (by decide) b1)
  obtain ⟨d, rfl⟩ := Int.eq_ofNat_of_zero_le (show 0 ≤ d by exact Int.le_trans (by decide) d1)
  obtain ⟨k, rfl⟩ := Int.eq_ofNat_of_zero_le (show 0 ≤ k by exact Int.le_trans (by decide) k1)
  obtain ⟨l, rfl⟩ := Int.eq_ofNat_of_zero_le (show 0 ≤ l by exact Int.le_trans (by decide) e1)
  obtain ⟨h, rfl⟩ := Int.eq_ofNat_of_zero_le (show 0 ≤ h by exact Int.le_trans (by decide) f1)
  obtain ⟨hh', ehh⟩ := Int.eq_ofNat_of_zero_le (show 0 ≤ halfS ⟨v, c, d, k, l, h⟩ by omega)
  exact refSampleOk v c d k l h hh' seed w o' ehh hseed
end Go.Wk.YtdelgnflcfhhkaaGreatDoor
