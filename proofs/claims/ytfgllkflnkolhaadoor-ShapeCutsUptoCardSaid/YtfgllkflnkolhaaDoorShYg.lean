/-
  Chapter 16: the document's Valid and Reaches; the law ShapeValid.
-/
import Derived.Test.YtfgllkflnkolhaaDoorShYe
import Derived.Test.YtfgllkflnkolhaaDoorShU
set_option linter.unusedVariables false
namespace Go.Wk.YtfgllkflnkolhaaDoor
open Go Go.Wk Go.Proofs

theorem Sm_bk {b b' : Bk Rw} (h : pBk b' = pBk b) (hs : b.Sm) : b'.Sm := fun r hr => by
  have e : ∀ f : Bk (List Int8) → List Int8, f (pBk b') = f (pBk b) := fun f => by rw [h]
  have g : ∀ (x y : Rw), y.xs = x.xs → x ∈ b.rows → y.xs.length ≤ 1000000000 := fun x y h1 h2 => by rw [h1]; exact hs x h2
  simp only [List.mem_cons, List.not_mem_nil, or_false] at hr
  rcases hr with rfl | rfl | rfl | rfl | rfl | rfl | rfl | rfl | rfl
  · exact g b.g1 _ (e Bk.g1) (by simp)
  · exact g b.g2 _ (e Bk.g2) (by simp)
  · exact g b.q _ (e Bk.q) (by simp)
  · exact g b.k _ (e Bk.k) (by simp)
  · exact g b.v _ (e Bk.v) (by simp)
  · exact g b.o _ (e Bk.o) (by simp)
  · exact g b.ga _ (e Bk.ga) (by simp)
  · exact g b.up _ (e Bk.up) (by simp)
  · exact g b.dn _ (e Bk.dn) (by simp)
theorem Sm_p {m m' : LM} (h : m'.p = m.p) (hs : m.Sm) : m'.Sm := by
  have e : ∀ f : Md → List Int8, f m'.p = f m.p := fun f => by rw [h]
  have hb : m'.bs.map pBk = m.bs.map pBk := congrArg Md.bs h
  have hV : m'.V = m.V := congrArg Md.V h
  refine ⟨fun r hr => ?_, fun b hb' => ?_, ?_, by rw [hV]; exact hs.V⟩
  · have g : ∀ (x y : Rw), y.xs = x.xs → x ∈ m.rows → y.xs.length ≤ 1000000000 := fun x y h1 h2 => by rw [h1]; exact hs.rows x h2
    simp only [List.mem_cons, List.not_mem_nil, or_false] at hr
    rcases hr with rfl | rfl | rfl | rfl | rfl | rfl
    · exact g m.e _ (e Md.e) (by simp)
    · exact g m.cos _ (e Md.cos) (by simp)
    · exact g m.sin _ (e Md.sin) (by simp)
    · exact g m.bend _ (e Md.bend) (by simp)
    · exact g m.gain _ (e Md.gain) (by simp)
    · exact g m.un _ (e Md.un) (by simp)
  · have : pBk b ∈ m.bs.map pBk := by rw [← hb]; exact List.mem_map_of_mem hb'
    obtain ⟨b0, h0, e0⟩ := List.mem_map.1 this
    exact Sm_bk e0.symm (hs.bs b0 h0)
  · have := congrArg List.length hb
    simp at this
    rw [this]; exact hs.bl
set_option maxHeartbeats 4000000 in
theorem refValid (m : LM) (w : World) (hm : m.At w) (hl : m.Sm) (hcap : m.Cap) :
    CallsF Tryd.prog 24 [lmV m] w fun r w' => r = whR (validQ m.p) ∧ Fr no w w' := by
  have hbl := hl.bl
  unfold validQ
  refine callsF Tryd.func24 rfl rfl (by decide) rfl ?_
  refine sA [] rfl ?_
  refine ev_box rfl rfl rfl fun p w1 hp kp f1 => ?_
  refine sA [] rfl ?_; refine ev_loadAggB rfl rfl tabOk rfl rfl ‹_› (by rfl) ?_
  refine ev_call rfl rfl rfl (refParts m w1 (hm.fr0 f1) hl.V hbl) ?_
  rintro r w2 ⟨rfl, f2⟩
  have kp2 := kp.fr0 f2
  have hF := f1.tr f2
  clear kp
  have hok := fun h => @allQ_ok m.p h
  obtain ⟨⟨b1, b2, b3⟩, hb⟩ : ∃ a, a = allQ m.p := ⟨_, rfl⟩
  rw [← hb] at hok ⊢
  refine sC [] rfl ?_; refine sC [] rfl ?_; refine sC [] rfl ?_; refine sD [] rfl ?_; refine sD [] rfl ?_
  by_cases c2 : b3 = 0
  rotate_left
  · rw [if_neg (show ¬ (b1, b2, b3).2.2 = 0 from c2), show decide (¬ (b1, b2, b3).2.2 = 0) = true from decide_eq_true c2]
    refine sA [] rfl ?_
    exact ret3 (.inr rfl) rfl rfl rfl rfl ⟨rfl, hF⟩
  rw [if_pos (show (b1, b2, b3).2.2 = 0 from c2), show decide (¬ (b1, b2, b3).2.2 = 0) = false from decide_eq_false fun h => h c2]
  obtain ⟨hs, _, hpo⟩ := hok c2
  have hlen : m.p.bs.length = m.bs.length := by simp [LM.p]
  have hrl : (reachQ m.p).length = 1 + 2 * m.bs.length := by rw [← rN_all, rN_len _ _ (Nat.le_refl _), hlen]
  refine sA [] rfl ?_; refine ev_loadAggB rfl rfl tabOk rfl rfl ‹_› (by rfl) ?_
  refine ev_call rfl rfl rfl (refReaches0 m w2 (hm.fr0 hF) hs hpo hcap) ?_
  rintro r wa ⟨⟨A, ca, rfl, hA⟩, fa⟩
  have hfa := hF.tr fa
  obtain ⟨l, hl'⟩ : ∃ l, l = reachQ m.p := ⟨_, rfl⟩
  rw [← hl'] at hA hrl ⊢
  obtain ⟨n, hn'⟩ : ∃ n, n = 1 + 2 * m.bs.length := ⟨_, rfl⟩
  rw [← hn'] at hrl ⊢
  have hnb : n ≤ 3000000 := by omega
  refine sA [] rfl ?_
  refine ev_loop (α := Nat) (fun y => [(22, .slice A n ca), (23, i64 n), (24, i64 y)])
    (fun y w' => y ≤ n ∧ Fr no w w' ∧ Cs w' A (l.map i64) ∧ ∀ i < y, ¬ 268435456 < l.getD i 0) (fun y => n - y) 0 ⟨rfl, rfl, rfl, trivial⟩ ⟨Nat.zero_le _, hfa, hA, fun i h => absurd h (Nat.not_lt_zero _)⟩ ?_
  clear hfa hA
  rintro y wb ⟨hy, hfb, hA, hz⟩
  refine sC [] rfl ?_; refine sD [] rfl ?_
  refine ev_condD rfl (fun c3 => ?_) (fun c3 => ?_)
  · have hyl : y < l.length := by omega
    obtain ⟨g, o, hAe, hcell⟩ := hA y (i64 (l.getD y 0)) (by simp [List.getElem?_eq_getElem hyl])
    subst hAe
    obtain ⟨x, hx⟩ : ∃ x, x = l.getD y 0 := ⟨_, rfl⟩
    rw [← hx] at hcell
    refine sA [] rfl ?_
    refine ev_indexAddr rfl rfl tabOk rfl rfl rfl (by omega) (by omega) ?_
    rw [show o + (y : Int).toNat * 1 = o + y by omega]
    refine ev_load rfl rfl tabOk rfl rfl hcell ?_
    refine sC [] rfl ?_; refine sC [] rfl ?_
    refine ev_condD rfl (fun c4 => ?_) (fun c4 => ?_)
    · have hf : farQ l = some y := List.find?_range_eq_some.2 ⟨by rw [← hx]; simpa using c4, List.mem_range.2 hyl, fun j hj => by simpa using hz j hj⟩
      rw [hf, Option.elim_some]
      refine sA [] rfl ?_
      exact ret3 (.inr rfl) rfl rfl rfl rfl ⟨rfl, hfb⟩
    · refine sA [] rfl ?_; refine ev_arith rfl rfl rfl rfl rfl (by simp only [lowK, hiK]; omega) ?_; refine sA [] rfl ?_
      refine ev_next (y + 1) (by omega) ⟨by omega, hfb, hA, fun i hi => by
        by_cases h : i = y
        · rw [h, ← hx]; exact c4
        · exact hz i (by omega)⟩ ⟨rfl, rfl, by rw [show ((y + 1 : Nat) : Int) = (y : Int) + 1 by omega]; rfl, trivial⟩
  · have hf : farQ l = none := List.find?_eq_none.2 fun i hi => by simpa using hz i (by have := List.mem_range.1 hi; omega)
    rw [hf, Option.elim_none]
    refine sA [] rfl ?_
    exact ret3 (.inr rfl) rfl rfl rfl rfl ⟨rfl, hfb⟩
set_option maxHeartbeats 4000000 in
theorem refReaches (m : LM) (w : World) (hm : m.At w) (hl : m.Sm) (hcap : m.Cap) :
    CallsF Tryd.prog 26 [lmV m] w fun r w' => (∃ A c, r = .tuple #[.slice A (reachL m.p).length c, i64 (allQ m.p).2.2] ∧ Cs w' A ((reachL m.p).map i64)) ∧ Fr no w w' := by
  have hbl := hl.bl
  refine callsF Tryd.func26 rfl rfl (by decide) rfl ?_
  refine sA [] rfl ?_
  refine ev_box rfl rfl rfl fun p w1 hp kp f1 => ?_
  refine sA [] rfl ?_; refine ev_loadAggB rfl rfl tabOk rfl rfl ‹_› (by rfl) ?_
  refine ev_call rfl rfl rfl (refParts m w1 (hm.fr0 f1) hl.V hbl) ?_
  rintro r w2 ⟨rfl, f2⟩
  have kp2 := kp.fr0 f2
  have hF := f1.tr f2
  clear kp
  have hok := fun h => @allQ_ok m.p h
  have hrL : reachL m.p = if (allQ m.p).2.2 = 0 then reachQ m.p else [] := rfl
  obtain ⟨⟨b1, b2, b3⟩, hb⟩ : ∃ a, a = allQ m.p := ⟨_, rfl⟩
  rw [← hb] at hok hrL ⊢
  refine sC [] rfl ?_; refine sC [] rfl ?_; refine sC [] rfl ?_; refine sD [] rfl ?_
  by_cases c2 : b3 = 0
  rotate_left
  · rw [if_neg (show ¬ (b1, b2, b3).2.2 = 0 from c2)] at hrL
    rw [show decide (¬ (b1, b2, b3).2.2 = 0) = true from decide_eq_true c2]
    refine sA [] rfl ?_
    exact ret2 (.inr rfl) rfl rfl rfl ⟨⟨none, 0, by rw [hrL]; rfl, by rw [hrL]; exact Cs.nil _ _⟩, hF⟩
  rw [if_pos (show (b1, b2, b3).2.2 = 0 from c2)] at hrL
  rw [show decide (¬ (b1, b2, b3).2.2 = 0) = false from decide_eq_false fun h => h c2]
  obtain ⟨hs, _, hpo⟩ := hok c2
  have hlen : m.p.bs.length = m.bs.length := by simp [LM.p]
  have hrl : (reachQ m.p).length = 1 + 2 * m.bs.length := by rw [← rN_all, rN_len _ _ (Nat.le_refl _), hlen]
  refine sA [] rfl ?_; refine ev_loadAggB rfl rfl tabOk rfl rfl ‹_› (by rfl) ?_
  refine ev_call rfl rfl rfl (refReaches0 m w2 (hm.fr0 hF) hs hpo hcap) ?_
  rintro r wa ⟨⟨A, ca, rfl, hA⟩, fa⟩
  refine sA [] rfl ?_
  have hc2 : ((b1, b2, b3) : Int × Int × Int).2.2 = 0 := c2
  exact ret2 (.inr rfl) rfl rfl rfl ⟨⟨A, ca, by rw [hrL, hrl, hc2], by rw [hrL]; exact hA⟩, hF.tr fa⟩
set_option maxHeartbeats 8000000 in
theorem lawValid (m : LM) (w : World) (hm : m.At w) (hl : m.Sm) (hcap : m.Cap) (hT : QT w) :
    CallsF Tryd.prog 5 [lmV m] w fun r w' => r = .bool true ∧ Fr no w w' := by
  have hbl := hl.bl
  refine callsF Tryd.func5 rfl rfl (by decide) rfl ?_
  refine sA [] rfl ?_
  refine ev_box rfl rfl rfl fun p w1 hp kp f1 => ?_
  have kp : Blk w1 p (lmC m) 51 := kp
  refine sA [] rfl ?_
  refine ev_call rfl rfl rfl (lAwake w1 (hT.fr0 f1)) ?_
  rintro r w2 ⟨rfl, f2⟩
  have kp2 := kp.fr0 f2
  have hF2 := f1.tr f2
  refine sA [] rfl ?_; refine ev_loadAggB rfl rfl tabOk rfl rfl ‹_› (by rfl) ?_
  refine ev_call rfl rfl rfl (refOf m w2 (hm.fr0 hF2) hl) ?_
  rintro r w3 ⟨t, rfl, htp, hO⟩
  have kp3 := kp2.fr0 hO.fr
  have hF3 := hF2.tr hO.fr
  have htl := Sm_p htp hl
  have htc := hO.cap
  clear kp kp2
  skip
  refine ev_alloc rfl rfl inf43 (fun q w4 hq kq f4 => ?_)
  refine ev_storeAgg tabOk rfl rfl rfl rfl rfl rfl kq rfl (fun w5 kq5 f5 => ?_)
  have h35 : Fr no w3 w5 := f4.trans f5 fun z hz e => by have : z = q := e; omega
  have kq5 : Blk w5 q (lmC t) 43 := kq5
  have kp5 := kp3.fr0 h35
  have hF5 := hF3.tr h35
  have hO5 := hO.fr0 h35
  clear kp3 kq hO
  refine sA [] rfl ?_; refine ev_loadAggB rfl rfl tabOk rfl rfl ‹_› (by rfl) ?_
  refine ev_call rfl rfl rfl (wValid m w5 (hm.fr0 hF5) hl.V hbl hcap) ?_
  rintro r w6 ⟨rfl, f6⟩
  have kp6 := kp5.fr0 f6
  have kq6 := kq5.fr0 f6
  have hF6 := hF5.tr f6
  have hO6 := hO5.fr0 f6
  clear kp5 kq5 hO5
  obtain ⟨⟨a1, a2, a3⟩, ha⟩ : ∃ a, a = validQ m.p := ⟨_, rfl⟩
  rw [← ha]
  refine sA [] rfl ?_
  refine ev_alloc rfl rfl inf63 (fun c w7 hc kc f7 => ?_)
  refine ev_storeAgg tabOk rfl rfl rfl rfl rfl rfl kc rfl (fun w8 kc8 f8 => ?_)
  have h68 : Fr no w6 w8 := f7.trans f8 fun z hz e => by have : z = c := e; omega
  have kp8 := kp6.fr0 h68
  have kq8 := kq6.fr0 h68
  have hF8 := hF6.tr h68
  have hO8 := hO6.fr0 h68
  clear kp6 kq6 hO6 kc
  refine sA [] rfl ?_; refine ev_loadAggB rfl rfl tabOk rfl rfl ‹_› (by rfl) ?_
  refine ev_call rfl rfl rfl (refValid t w8 hO8.At htl htc) ?_
  rintro r w9 ⟨rfl, f9⟩
  rw [htp, ← ha]
  have kp9 := kp8.fr0 f9
  have kq9 := kq8.fr0 f9
  have kc9 := kc8.fr0 f9
  have hF9 := hF8.tr f9
  have hO9 := hO8.fr0 f9
  clear kp8 kq8 kc8 hO8
  refine sA [] rfl ?_; refine ev_loadAggB rfl rfl tabOk rfl rfl ‹_› (by rfl) ?_; refine sA [] rfl ?_
  refine ev_build rfl rfl (v := .agg ⟨[i64 a1, i64 a2]⟩) rfl (fun w => by kernel_rfl) ?_
  refine ev_y rfl rfl (y_where_neq (m := (a1, a2)) (m' := (a1, a2)) rfl rfl) ?_
  rw [show (!decide ((a1, a2) = (a1, a2))) = false by rw [decide_eq_true rfl]; rfl]
  refine sC [] rfl ?_; refine sD [] rfl ?_; refine sD [] rfl ?_
  rw [show decide (¬ (a1, a2, a3).2.2 = (a1, a2, a3).2.2) = false from neq_same a3]
  refine sA [] rfl ?_; refine ev_loadAggB rfl rfl tabOk rfl rfl ‹_› (by rfl) ?_
  refine ev_call rfl rfl rfl (wReaches m w9 (hm.fr0 hF9) hl.V hbl hcap) ?_
  rintro r wa ⟨⟨A, ca, rfl, hA⟩, fa⟩
  have kpa := kp9.fr0 fa
  have kqa := kq9.fr0 fa
  have hFa := hF9.tr fa
  have hOa := hO9.fr0 fa
  clear kp9 kq9 kc9 hO9
  refine sA [] rfl ?_; refine ev_loadAggB rfl rfl tabOk rfl rfl ‹_› (by rfl) ?_
  refine ev_call rfl rfl rfl (refReaches t wa hOa.At htl htc) ?_
  rw [htp]
  rintro r wb ⟨⟨B, cb, rfl, hB⟩, fb⟩
  have kpb := kpa.fr0 fb
  have kqb := kqa.fr0 fb
  have hFb := hFa.tr fb
  have hOb := hOa.fr0 fb
  have hAb := hA.fr0 fb
  clear kpa kqa hOa hA
  have hrlen : (reachL m.p).length ≤ 3000000 := by
    unfold reachL
    have hlen : m.p.bs.length = m.bs.length := by simp [LM.p]
    split
    · rw [← rN_all, rN_len _ _ (Nat.le_refl _), hlen]; omega
    · simp
  obtain ⟨l, hl'⟩ : ∃ l, l = reachL m.p := ⟨_, rfl⟩
  obtain ⟨e, he⟩ : ∃ e, e = (allQ m.p).2.2 := ⟨_, rfl⟩
  rw [← hl'] at hAb hB hrlen
  rw [← hl', ← he]
  refine sC [] rfl ?_; refine sC [] rfl ?_; refine sC [] rfl ?_; refine sD [] rfl ?_
  rw [show decide (¬ e = e) = false from neq_same e]
  refine sC [] rfl ?_; refine sD [] rfl ?_; refine sD [] rfl ?_; refine sD [] rfl ?_
  rw [show decide (¬ (l.length : Int) = l.length) = false from neq_same _]
  refine sA [] rfl ?_
  refine ev_loop (α := Nat) (fun y => [(1, .pointer (some ⟨p, 0, none⟩)), (3, .pointer (some ⟨q, 0, none⟩)), (9, .slice A l.length ca), (10, .slice B l.length cb), (58, i64 l.length), (59, i64 y)])
    (fun y w' => y ≤ l.length ∧ Fr no w w' ∧ Fr no wb w') (fun y => l.length - y) 0 ⟨rfl, rfl, rfl, rfl, rfl, rfl, trivial⟩ ⟨Nat.zero_le _, hFb, Fr.refl _ _⟩ ?_
  rintro y wc ⟨hy, hFc, hbc⟩
  refine sC [] rfl ?_; refine sD [] rfl ?_
  refine ev_condD rfl (fun c3 => ?_) (fun c3 => ?_)
  · have hyl : y < l.length := by omega
    obtain ⟨g, o, rfl, hc1⟩ := (hAb.fr0 hbc) y (i64 l[y]) (by simp [List.getElem?_eq_getElem hyl])
    obtain ⟨g2, o2, rfl, hc2⟩ := (hB.fr0 hbc) y (i64 l[y]) (by simp [List.getElem?_eq_getElem hyl])
    obtain ⟨x, hx⟩ : ∃ x, x = l[y] := ⟨_, rfl⟩
    rw [← hx] at hc1 hc2
    have hc1 : wc.cell? ⟨g, o + (y : Int).toNat * 1, none⟩ = some (i64 x) := by rw [show o + (y : Int).toNat * 1 = o + y by omega]; exact hc1
    have hc2 : wc.cell? ⟨g2, o2 + (y : Int).toNat * 1, none⟩ = some (i64 x) := by rw [show o2 + (y : Int).toNat * 1 = o2 + y by omega]; exact hc2
    refine sA [] rfl ?_
    refine ev_draw mixed (by kernel_rfl) ?_
    refine qA rfl ?_
    refine q_indexAddr rfl rfl tabOk rfl rfl rfl (by omega) (by omega) ?_
    refine q_load rfl rfl tabOk rfl rfl (fun _ hf => cell_fr (by assumption) hf id) ?_; refine qA rfl ?_
    refine q_indexAddr rfl rfl tabOk rfl rfl rfl (by omega) (by omega) ?_
    refine q_load rfl rfl tabOk rfl rfl (fun _ hf => cell_fr (by assumption) hf id) ?_; refine qA rfl ?_
    rw [show decide (¬ x = x) = false from neq_same x]
    refine q_end fun wd fd => ?_
    refine sA [] rfl ?_; refine ev_arith rfl rfl rfl rfl rfl (by simp only [lowK, hiK]; omega) ?_; refine sA [] rfl ?_
    refine ev_next (y + 1) (by omega) ⟨by omega, hFc.tr fd, hbc.tr fd⟩ ⟨rfl, rfl, rfl, rfl, rfl, by rw [show ((y + 1 : Nat) : Int) = (y : Int) + 1 by omega]; rfl, trivial⟩
  · have kpc := kpb.fr0 hbc
    have kqc := kqb.fr0 hbc
    have hOc := hOb.fr0 hbc
    refine sA [] rfl ?_
    refine mixC_in (fun w' => Fr no wc w') mixed (fun we fe => ?_)
    refine m_loadAgg 0 rfl rfl rfl (by kernel_rfl) (by kernel_rfl) rfl rfl tabOk rfl rfl rfl (fun w' hf => Cs.of_blk (kpc.fr0 hf)) ?_
    refine m_loadAgg 2 rfl rfl rfl (by kernel_rfl) (by kernel_rfl) rfl rfl tabOk rfl rfl rfl (fun w' hf => Cs.of_blk (kqc.fr0 hf)) ?_
    refine mix1 rfl rfl ?_ fe
    refine ev_call rfl rfl rfl (refOf m we (hm.fr0 (hFc.tr fe)) hl) ?_
    rintro r wf ⟨t2, rfl, ht2, hO2⟩
    have fef := fe.tr hO2.fr
    refine mix_op ?_
    refine mix1 rfl rfl ?_ fef
    refine ev_call rfl rfl rfl (refSameM t2 t wf hO2.At (hOc.fr0 fef).At (Sm_p ht2 hl) htl) ?_
    rintro r wg ⟨rfl, fg⟩
    rw [eqB_t (show t2.p = t.p by rw [ht2, htp])]
    refine mix_op ?_
    refine mA rfl (by kernel_rfl) (by kernel_rfl) ?_
    refine mix_out rfl ?_ (fef.tr fg)
    refine sA [] rfl ?_
    exact ret1 (.inr rfl) rfl rfl ⟨rfl, hFc.tr (fef.tr fg)⟩
end Go.Wk.YtfgllkflnkolhaaDoor
