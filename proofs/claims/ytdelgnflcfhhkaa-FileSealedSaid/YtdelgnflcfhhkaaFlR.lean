/-
  Chapter 17: law FileBack.
-/
import Derived.Test.YtdelgnflcfhhkaaFlP
set_option linter.unusedVariables false
namespace Go.Wk.Ytdelgnflcfhhkaa
open Go Go.Wk Go.Proofs

theorem enc_e (m : Md) : (encA m).2 = (validQ m).2.2 := by
  unfold encA
  split
  · rename_i h; exact h.symm
  · rfl
theorem fileQ_le {m : Md} (h : VM m) : (fileQ m).length ≤ 20000000 := by
  rw [fileQ_len]
  have hV := h.V
  have htf := hV.few
  have hmf := hV.fewM
  obtain ⟨⟨r1, r2, r3, r4, r5, r6⟩, hrb⟩ := vm_rows h
  have hlay : m.bs.length ≤ 8 := by
    have h1 := h.lay
    have h2 := h.s.2.2.2.2.2.2.1.2
    omega
  have hwl : ∀ l : List Int8, (wrwB l).length = l.length := fun l => List.length_map _
  have e1 := flat_le (f := encN 2) (c := 8) (l := m.s.nums) fun x _ => numB_len x 2
  have e2 : (m.V.texts.flatMap encT).length ≤ 72 * m.V.texts.length := flat_le fun t ht => by
    obtain ⟨i, hi, rfl⟩ := List.getElem_of_mem ht
    have := (hV.texts i hi).2.2
    rw [show m.V.t i = m.V.texts[i] by unfold VV.t; rw [List.getD_eq_getElem?_getD, List.getElem?_eq_getElem hi]; rfl] at this
    have h2 := numB_len m.V.texts[i].length 1
    unfold encT; rw [List.length_append]; omega
  have e3 : (m.V.merges.flatMap encG).length ≤ 24 * m.V.merges.length := flat_le fun t _ => by
    have h1 := numB_len t.1 2
    have h2 := numB_len t.2.1 2
    have h3 := numB_len t.2.2 2
    unfold encG; rw [List.length_append, List.length_append]; omega
  have e4 : (m.bs.flatMap encBk).length ≤ 1000000 * m.bs.length := flat_le fun b hb => by
    have h1 := flat_le (f := encN 1) (c := 8) (l := b.shs) fun x _ => numB_len x 1
    have h2 := flat_le (f := wrwB) (c := 100000) (l := b.frs) fun x hx => by rw [hwl]; exact hrb b hb x hx
    have h1 : (b.shs.flatMap (encN 1)).length ≤ 64 := h1
    have h2 : (b.frs.flatMap wrwB).length ≤ 900000 := h2
    unfold encBk; rw [List.length_append]; omega
  have e1 : (encS m.s).length ≤ 48 := e1
  have n1 := numB_len m.es 1
  have n2 := numB_len m.ls 1
  have n3 := numB_len m.V.merges.length 2
  unfold encM encBody encV
  simp only [List.length_append, hwl]
  omega
set_option maxHeartbeats 8000000 in
set_option maxRecDepth 10000 in
theorem lawBack (m : LM) (w : World) (hm : m.At w) (hl : m.Sm) (hcap : m.Cap) :
    CallsF Try.prog 9 [lmV m] w fun r w' => r = .bool true ∧ Fr no w w' := by
  refine callsF Try.func9 rfl rfl (by decide) rfl ?_
  refine sA [] rfl ?_
  refine ev_box rfl rfl rfl fun p w1 hp kp f1 => ?_
  have kp : Blk w1 p (lmC m) 31 := kp
  refine sA [] rfl ?_; refine ev_loadAggB rfl rfl tabOk rfl rfl ‹_› (by rfl) ?_
  refine ev_call rfl rfl rfl (wEncode m w1 (hm.fr0 f1) hl hcap) ?_
  rintro r w2 ⟨rfl, f2⟩
  have kp2 := kp.fr0 f2
  have hF2 := f1.tr f2
  have hee := enc_e m.p
  have hx0 : (validQ m.p).2.2 = 0 → (encA m.p).1 = fileQ m.p := fun h => by unfold encA; rw [if_pos h]
  have hx1 : ¬ (validQ m.p).2.2 = 0 → (encA m.p).1 = [] := fun h => by unfold encA; rw [if_neg h]
  have hsz := fun w hw => wSize m w hw hl hcap
  obtain ⟨⟨X, e⟩, hX⟩ : ∃ z, z = encA m.p := ⟨_, rfl⟩
  rw [← hX] at hee hx0 hx1 hsz ⊢
  have hee : e = (validQ m.p).2.2 := hee
  have hx0 : (validQ m.p).2.2 = 0 → X = fileQ m.p := hx0
  have hx1 : ¬ (validQ m.p).2.2 = 0 → X = [] := hx1
  refine sA [] rfl ?_; refine ev_loadAggB rfl rfl tabOk rfl rfl ‹_› (by rfl) ?_
  refine ev_call rfl rfl rfl (refOf m w2 (hm.fr0 hF2) hl) ?_
  rintro r w3 ⟨t, rfl, htp, hO⟩
  have htl := Sm_p htp hl
  skip
  refine ev_call rfl rfl rfl (refValid t w3 hO.At htl hO.cap) ?_
  rintro r w4 ⟨rfl, f4⟩
  rw [htp]
  have kp4 := (kp2.fr0 hO.fr).fr0 f4
  have hF4 := (hF2.tr hO.fr).tr f4
  obtain ⟨a, ha⟩ : ∃ a, a = validQ m.p := ⟨_, rfl⟩
  have hback := @decA_back m.p
  have hvm := @vm_of m.p
  rw [← ha] at hee hx0 hx1 hback hvm ⊢
  clear kp kp2
  refine sA [] rfl ?_
  refine ev_call rfl rfl rfl (lAwake17 w4) ?_
  rintro r w5 ⟨rfl, f5⟩
  have kp5 := kp4.fr0 f5
  have hF5 := hF4.tr f5
  clear kp4
  refine sC [] rfl ?_; refine sD [] rfl ?_; refine sD [] rfl ?_; refine sD [] rfl ?_
  rw [show decide (¬ (X, e).2 = a.2.2) = false from decide_eq_false (fun h => h hee)]
  refine sC [] rfl ?_; refine sC [] rfl ?_
  by_cases h0 : a.2.2 = 0
  rotate_left
  · rw [show decide (¬ (X, e).2 = 0) = true from decide_eq_true (by rw [hee]; exact h0)]
    refine sA [] rfl ?_
    rw [hx1 h0]
    skip
    exact ret1 (.inr rfl) rfl rfl ⟨rfl, hF5⟩
  rw [show decide (¬ (X, e).2 = 0) = false from decide_eq_false (fun h => h (by rw [hee]; exact h0))]
  have hXF := hx0 h0
  have hXl : X.length ≤ 20000000 := by rw [hXF]; exact fileQ_le (hvm h0)
  refine sA [] rfl ?_
  refine ev_call rfl rfl rfl (wDecode X w5 (by omega)) ?_
  rintro r w6 ⟨n, rfl, hnp, hOn⟩
  have hdX : decA X = (m.p, 0) := by rw [hXF]; exact hback h0
  rw [hdX] at hnp ⊢
  have hnp : n.p = m.p := hnp
  have hnl := Sm_p hnp hl
  have kp6 := kp5.fr0 hOn.fr
  have hF6 := hF5.tr hOn.fr
  refine sA [] rfl ?_
  refine ev_alloc rfl rfl inf31 (fun q w7 hq kq f7 => ?_)
  refine ev_storeAgg tabOk rfl rfl rfl rfl rfl rfl kq rfl (fun w8 kq f8 => ?_)
  have h68 : Fr no w6 w8 := f7.trans f8 fun z hz e => by have : z = q := e; omega
  have kq : Blk w8 q (lmC n) 31 := kq
  have kp8 := kp6.fr0 h68
  have hF8 := hF6.tr h68
  have hn8 := hOn.At.fr0 h68
  refine sA [] rfl ?_
  refine mixC_in (fun w' => Fr no w8 w') mixed (fun v g => ?_)
  refine mix_run 2 tabOk rfl (by kernel_rfl) (by kernel_rfl) ?_
  rw [show decide ((m.p, (0 : Int)).2 = 0) = true from rfl]
  refine mA rfl (by kernel_rfl) (by kernel_rfl) ?_
  refine m_loadAgg 3 rfl rfl rfl (by kernel_rfl) (by kernel_rfl) rfl rfl tabOk rfl rfl rfl (fun w' h => Cs.of_blk (kp8.fr0 h)) ?_
  refine m_loadAgg 5 rfl rfl rfl (by kernel_rfl) (by kernel_rfl) rfl rfl tabOk rfl rfl rfl (fun w' h => Cs.of_blk (kq.fr0 h)) ?_
  refine mix1 rfl rfl ?_ g
  refine ev_call rfl rfl rfl (refOf m v (hm.fr0 (hF8.tr g)) hl) ?_
  rintro r v1 ⟨t1, rfl, ht1p, hO1⟩
  have g := g.tr hO1.fr
  refine mix_op ?_
  refine mix1 rfl rfl ?_ g
  refine ev_call rfl rfl rfl (refOf n v1 (hn8.fr0 g) hnl) ?_
  rintro r v2 ⟨t2, rfl, ht2p, hO2⟩
  have g := g.tr hO2.fr
  refine mix_op ?_
  refine mix1 rfl rfl ?_ g
  refine ev_call rfl rfl rfl (refSameM t1 t2 v2 (hO1.At.fr0 hO2.fr) hO2.At (Sm_p ht1p hl) (Sm_p ht2p hnl)) ?_
  rintro r v3 ⟨rfl, g3⟩
  rw [eqB_t (show t1.p = t2.p by rw [ht1p, ht2p, hnp])]
  have g := g.tr g3
  refine mix_op ?_
  refine mA rfl (by kernel_rfl) (by kernel_rfl) ?_
  refine m_loadAgg 10 rfl rfl rfl (by kernel_rfl) (by kernel_rfl) rfl rfl tabOk rfl rfl rfl (fun w' h => Cs.of_blk (kp8.fr0 h)) ?_
  refine mix1 rfl rfl ?_ g
  refine ev_call rfl rfl rfl (hsz v3 (hm.fr0 (hF8.tr g))) ?_
  rintro r v4 ⟨rfl, g4⟩
  have g := g.tr g4
  refine mix_op ?_
  refine mix_run 1 tabOk rfl (by kernel_rfl) (by kernel_rfl) ?_
  rw [show decide (((X, e).1.length : Int) = ((X, e).1.length : Int)) = true from decide_eq_true rfl]
  refine mA rfl (by kernel_rfl) (by kernel_rfl) ?_
  refine mix_out rfl ?_ g
  refine sA [] rfl ?_
  exact ret1 (.inr rfl) rfl rfl ⟨rfl, hF8.tr g⟩
end Go.Wk.Ytdelgnflcfhhkaa
