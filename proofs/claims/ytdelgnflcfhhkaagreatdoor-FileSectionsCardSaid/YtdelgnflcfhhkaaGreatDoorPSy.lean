/-
  Taken for this seat out of ShYg.
-/
import Derived.Test.YtdelgnflcfhhkaaGreatDoorPShYe
import Derived.Test.YtdelgnflcfhhkaaGreatDoorPSx
set_option linter.unusedVariables false
namespace Go.Wk.YtdelgnflcfhhkaaGreatDoor
open Go Go.Wk Go.Proofs
theorem Sm_bk {b b' : Bk Rw} (h : pBk b' = pBk b) (hs : b.Sm) : b'.Sm := fun r hr => by
  have e : ∀ f : Bk (List Int8) → List Int8, f (pBk b') = f (pBk b) := fun f => by rw [h]
  have g : ∀ (x y : Rw), y.xs = x.xs → x ∈ b.rows → y.xs.length ≤ 1000000000 := fun x y h1 h2 => by rw [h1]; exact hs x h2
  simp only [List.mem_cons, List.not_mem_nil, or_false] at hr
  rcases hr with rfl | rfl | rfl | rfl | rfl | rfl | rfl | rfl | rfl
  · exact g b.g1 _ (e Bk.g1) (by simp)
  · exact g b.g2 _ (e Bk.g2) (by simp)
  · exact g b.q _ (e Bk.q) (by simp)
  · exact g b.k _ (e Bk.k) (by simp)
  · exact g b.v _ (e Bk.v) (by simp)
  · exact g b.o _ (e Bk.o) (by simp)
  · exact g b.ga _ (e Bk.ga) (by simp)
  · exact g b.up _ (e Bk.up) (by simp)
  · exact g b.dn _ (e Bk.dn) (by simp)
theorem Sm_p {m m' : LM} (h : m'.p = m.p) (hs : m.Sm) : m'.Sm := by
  have e : ∀ f : Md → List Int8, f m'.p = f m.p := fun f => by rw [h]
  have hb : m'.bs.map pBk = m.bs.map pBk := congrArg Md.bs h
  have hV : m'.V = m.V := congrArg Md.V h
  refine ⟨fun r hr => ?_, fun b hb' => ?_, ?_, by rw [hV]; exact hs.V⟩
  · have g : ∀ (x y : Rw), y.xs = x.xs → x ∈ m.rows → y.xs.length ≤ 1000000000 := fun x y h1 h2 => by rw [h1]; exact hs.rows x h2
    simp only [List.mem_cons, List.not_mem_nil, or_false] at hr
    rcases hr with rfl | rfl | rfl | rfl | rfl | rfl
    · exact g m.e _ (e Md.e) (by simp)
    · exact g m.cos _ (e Md.cos) (by simp)
    · exact g m.sin _ (e Md.sin) (by simp)
    · exact g m.bend _ (e Md.bend) (by simp)
    · exact g m.gain _ (e Md.gain) (by simp)
    · exact g m.un _ (e Md.un) (by simp)
  · have : pBk b ∈ m.bs.map pBk := by rw [← hb]; exact List.mem_map_of_mem hb'
    obtain ⟨b0, h0, e0⟩ := List.mem_map.1 this
    exact Sm_bk e0.symm (hs.bs b0 h0)
  · have := congrArg List.length hb
    simp at this
    rw [this]; exact hs.bl
set_option maxHeartbeats 4000000 in
theorem refValid (m : LM) (w : World) (hm : m.At w) (hl : m.Sm) (hcap : m.Cap) :
    CallsF Tryz.prog 46 [lmV m] w fun r w' => r = whR (validQ m.p) ∧ Fr no w w' := by
  have hbl := hl.bl
  unfold validQ
  refine callsF Tryz.func46 rfl rfl (by decide) rfl ?_
  repeat (first | refine sA [] rfl ?_ | refine sB [] rfl ?_ | refine sC [] rfl ?_ | refine sD [] rfl ?_ | refine ev_load rfl rfl tabOk rfl rfl ‹_› ?_ | refine ev_loadB rfl rfl tabOk rfl rfl ‹_› (by rfl) ?_ | refine ev_loadAggB rfl rfl tabOk rfl rfl ‹_› (by rfl) ?_ | refine ev_arith rfl rfl rfl rfl rfl (by simp only [lowK, hiK]; omega) ?_ | refine ev_rem rfl rfl rfl rfl (by omega) (by omega) ?_ | refine ev_quo rfl rfl rfl rfl (by omega) (by omega) (by simp only [hiK]; omega) ?_ | refine ev_index rfl rfl tabOk rfl rfl rfl (by omega) (by omega) ?_ | refine ev_indexA rfl rfl tabOk rfl rfl rfl (by omega) (by omega) rfl ?_ | refine ev_convB rfl rfl tabOk rfl rfl rfl rfl ?_ | refine ev_conv rfl rfl tabOk rfl rfl rfl (by simp only [lowK, hiK]; omega) ?_)
  refine ev_box rfl rfl rfl fun p w1 hp kp f1 => ?_
  repeat (first | refine sA [] rfl ?_ | refine sB [] rfl ?_ | refine sC [] rfl ?_ | refine sD [] rfl ?_ | refine ev_load rfl rfl tabOk rfl rfl ‹_› ?_ | refine ev_loadB rfl rfl tabOk rfl rfl ‹_› (by rfl) ?_ | refine ev_loadAggB rfl rfl tabOk rfl rfl ‹_› (by rfl) ?_ | refine ev_arith rfl rfl rfl rfl rfl (by simp only [lowK, hiK]; omega) ?_ | refine ev_rem rfl rfl rfl rfl (by omega) (by omega) ?_ | refine ev_quo rfl rfl rfl rfl (by omega) (by omega) (by simp only [hiK]; omega) ?_ | refine ev_index rfl rfl tabOk rfl rfl rfl (by omega) (by omega) ?_ | refine ev_indexA rfl rfl tabOk rfl rfl rfl (by omega) (by omega) rfl ?_ | refine ev_convB rfl rfl tabOk rfl rfl rfl rfl ?_ | refine ev_conv rfl rfl tabOk rfl rfl rfl (by simp only [lowK, hiK]; omega) ?_)
  refine ev_call rfl rfl rfl (refParts m w1 (hm.fr0 f1) hl.V hbl) ?_
  rintro r w2 ⟨rfl, f2⟩
  have kp2 := kp.fr0 f2
  have hF := f1.tr f2
  clear kp
  have hok := fun h => @allQ_ok m.p h
  obtain ⟨⟨b1, b2, b3⟩, hb⟩ : ∃ a, a = allQ m.p := ⟨_, rfl⟩
  rw [← hb] at hok ⊢
  repeat (first | refine sA [] rfl ?_ | refine sB [] rfl ?_ | refine sC [] rfl ?_ | refine sD [] rfl ?_ | refine ev_load rfl rfl tabOk rfl rfl ‹_› ?_ | refine ev_loadB rfl rfl tabOk rfl rfl ‹_› (by rfl) ?_ | refine ev_loadAggB rfl rfl tabOk rfl rfl ‹_› (by rfl) ?_ | refine ev_arith rfl rfl rfl rfl rfl (by simp only [lowK, hiK]; omega) ?_ | refine ev_rem rfl rfl rfl rfl (by omega) (by omega) ?_ | refine ev_quo rfl rfl rfl rfl (by omega) (by omega) (by simp only [hiK]; omega) ?_ | refine ev_index rfl rfl tabOk rfl rfl rfl (by omega) (by omega) ?_ | refine ev_indexA rfl rfl tabOk rfl rfl rfl (by omega) (by omega) rfl ?_ | refine ev_convB rfl rfl tabOk rfl rfl rfl rfl ?_ | refine ev_conv rfl rfl tabOk rfl rfl rfl (by simp only [lowK, hiK]; omega) ?_)
  by_cases c2 : b3 = 0
  rotate_left
  · rw [if_neg (show ¬ (b1, b2, b3).2.2 = 0 from c2), show decide (¬ (b1, b2, b3).2.2 = 0) = true from decide_eq_true c2]
    repeat (first | refine sA [] rfl ?_ | refine sB [] rfl ?_ | refine sC [] rfl ?_ | refine sD [] rfl ?_ | refine ev_load rfl rfl tabOk rfl rfl ‹_› ?_ | refine ev_loadB rfl rfl tabOk rfl rfl ‹_› (by rfl) ?_ | refine ev_loadAggB rfl rfl tabOk rfl rfl ‹_› (by rfl) ?_ | refine ev_arith rfl rfl rfl rfl rfl (by simp only [lowK, hiK]; omega) ?_ | refine ev_rem rfl rfl rfl rfl (by omega) (by omega) ?_ | refine ev_quo rfl rfl rfl rfl (by omega) (by omega) (by simp only [hiK]; omega) ?_ | refine ev_index rfl rfl tabOk rfl rfl rfl (by omega) (by omega) ?_ | refine ev_indexA rfl rfl tabOk rfl rfl rfl (by omega) (by omega) rfl ?_ | refine ev_convB rfl rfl tabOk rfl rfl rfl rfl ?_ | refine ev_conv rfl rfl tabOk rfl rfl rfl (by simp only [lowK, hiK]; omega) ?_)
    exact ret3 (.inr rfl) rfl rfl rfl rfl ⟨rfl, hF⟩
  rw [if_pos (show (b1, b2, b3).2.2 = 0 from c2), show decide (¬ (b1, b2, b3).2.2 = 0) = false from decide_eq_false fun h => h c2]
  obtain ⟨hs, _, hpo⟩ := hok c2
  have hlen : m.p.bs.length = m.bs.length := by simp [LM.p]
  have hrl : (reachQ m.p).length = 1 + 2 * m.bs.length := by rw [← rN_all, rN_len _ _ (Nat.le_refl _), hlen]
  repeat (first | refine sA [] rfl ?_ | refine sB [] rfl ?_ | refine sC [] rfl ?_ | refine sD [] rfl ?_ | refine ev_load rfl rfl tabOk rfl rfl ‹_› ?_ | refine ev_loadB rfl rfl tabOk rfl rfl ‹_› (by rfl) ?_ | refine ev_loadAggB rfl rfl tabOk rfl rfl ‹_› (by rfl) ?_ | refine ev_arith rfl rfl rfl rfl rfl (by simp only [lowK, hiK]; omega) ?_ | refine ev_rem rfl rfl rfl rfl (by omega) (by omega) ?_ | refine ev_quo rfl rfl rfl rfl (by omega) (by omega) (by simp only [hiK]; omega) ?_ | refine ev_index rfl rfl tabOk rfl rfl rfl (by omega) (by omega) ?_ | refine ev_indexA rfl rfl tabOk rfl rfl rfl (by omega) (by omega) rfl ?_ | refine ev_convB rfl rfl tabOk rfl rfl rfl rfl ?_ | refine ev_conv rfl rfl tabOk rfl rfl rfl (by simp only [lowK, hiK]; omega) ?_)
  refine ev_call rfl rfl rfl (refReaches0 m w2 (hm.fr0 hF) hs hpo hcap) ?_
  rintro r wa ⟨⟨A, ca, rfl, hA⟩, fa⟩
  have hfa := hF.tr fa
  obtain ⟨l, hl'⟩ : ∃ l, l = reachQ m.p := ⟨_, rfl⟩
  rw [← hl'] at hA hrl ⊢
  obtain ⟨n, hn'⟩ : ∃ n, n = 1 + 2 * m.bs.length := ⟨_, rfl⟩
  rw [← hn'] at hrl ⊢
  have hnb : n ≤ 3000000 := by omega
  repeat (first | refine sA [] rfl ?_ | refine sB [] rfl ?_ | refine sC [] rfl ?_ | refine sD [] rfl ?_ | refine ev_load rfl rfl tabOk rfl rfl ‹_› ?_ | refine ev_loadB rfl rfl tabOk rfl rfl ‹_› (by rfl) ?_ | refine ev_loadAggB rfl rfl tabOk rfl rfl ‹_› (by rfl) ?_ | refine ev_arith rfl rfl rfl rfl rfl (by simp only [lowK, hiK]; omega) ?_ | refine ev_rem rfl rfl rfl rfl (by omega) (by omega) ?_ | refine ev_quo rfl rfl rfl rfl (by omega) (by omega) (by simp only [hiK]; omega) ?_ | refine ev_index rfl rfl tabOk rfl rfl rfl (by omega) (by omega) ?_ | refine ev_indexA rfl rfl tabOk rfl rfl rfl (by omega) (by omega) rfl ?_ | refine ev_convB rfl rfl tabOk rfl rfl rfl rfl ?_ | refine ev_conv rfl rfl tabOk rfl rfl rfl (by simp only [lowK, hiK]; omega) ?_)
  refine ev_loop (α := Nat) (fun y => [(22, .slice A n ca), (23, i64 n), (24, i64 y)])
    (fun y w' => y ≤ n ∧ Fr no w w' ∧ Cs w' A (l.map i64) ∧ ∀ i < y, ¬ 268435456 < l.getD i 0) (fun y => n - y) 0 ⟨rfl, rfl, rfl, trivial⟩ ⟨Nat.zero_le _, hfa, hA, fun i h => absurd h (Nat.not_lt_zero _)⟩ ?_
  clear hfa hA
  rintro y wb ⟨hy, hfb, hA, hz⟩
  repeat (first | refine sA [] rfl ?_ | refine sB [] rfl ?_ | refine sC [] rfl ?_ | refine sD [] rfl ?_ | refine ev_load rfl rfl tabOk rfl rfl ‹_› ?_ | refine ev_loadB rfl rfl tabOk rfl rfl ‹_› (by rfl) ?_ | refine ev_loadAggB rfl rfl tabOk rfl rfl ‹_› (by rfl) ?_ | refine ev_arith rfl rfl rfl rfl rfl (by simp only [lowK, hiK]; omega) ?_ | refine ev_rem rfl rfl rfl rfl (by omega) (by omega) ?_ | refine ev_quo rfl rfl rfl rfl (by omega) (by omega) (by simp only [hiK]; omega) ?_ | refine ev_index rfl rfl tabOk rfl rfl rfl (by omega) (by omega) ?_ | refine ev_indexA rfl rfl tabOk rfl rfl rfl (by omega) (by omega) rfl ?_ | refine ev_convB rfl rfl tabOk rfl rfl rfl rfl ?_ | refine ev_conv rfl rfl tabOk rfl rfl rfl (by simp only [lowK, hiK]; omega) ?_)
  refine ev_condD rfl (fun c3 => ?_) (fun c3 => ?_)
  · have hyl : y < l.length := by omega
    obtain ⟨g, o, hAe, hcell⟩ := hA y (i64 (l.getD y 0)) (by simp [List.getElem?_eq_getElem hyl])
    subst hAe
    obtain ⟨x, hx⟩ : ∃ x, x = l.getD y 0 := ⟨_, rfl⟩
    rw [← hx] at hcell
    repeat (first | refine sA [] rfl ?_ | refine sB [] rfl ?_ | refine sC [] rfl ?_ | refine sD [] rfl ?_ | refine ev_load rfl rfl tabOk rfl rfl ‹_› ?_ | refine ev_loadB rfl rfl tabOk rfl rfl ‹_› (by rfl) ?_ | refine ev_loadAggB rfl rfl tabOk rfl rfl ‹_› (by rfl) ?_ | refine ev_arith rfl rfl rfl rfl rfl (by simp only [lowK, hiK]; omega) ?_ | refine ev_rem rfl rfl rfl rfl (by omega) (by omega) ?_ | refine ev_quo rfl rfl rfl rfl (by omega) (by omega) (by simp only [hiK]; omega) ?_ | refine ev_index rfl rfl tabOk rfl rfl rfl (by omega) (by omega) ?_ | refine ev_indexA rfl rfl tabOk rfl rfl rfl (by omega) (by omega) rfl ?_ | refine ev_convB rfl rfl tabOk rfl rfl rfl rfl ?_ | refine ev_conv rfl rfl tabOk rfl rfl rfl (by simp only [lowK, hiK]; omega) ?_)
    refine ev_indexAddr rfl rfl tabOk rfl rfl rfl (by omega) (by omega) ?_
    rw [show o + (y : Int).toNat * 1 = o + y by omega]
    refine ev_load rfl rfl tabOk rfl rfl hcell ?_
    repeat (first | refine sA [] rfl ?_ | refine sB [] rfl ?_ | refine sC [] rfl ?_ | refine sD [] rfl ?_ | refine ev_load rfl rfl tabOk rfl rfl ‹_› ?_ | refine ev_loadB rfl rfl tabOk rfl rfl ‹_› (by rfl) ?_ | refine ev_loadAggB rfl rfl tabOk rfl rfl ‹_› (by rfl) ?_ | refine ev_arith rfl rfl rfl rfl rfl (by simp only [lowK, hiK]; omega) ?_ | refine ev_rem rfl rfl rfl rfl (by omega) (by omega) ?_ | refine ev_quo rfl rfl rfl rfl (by omega) (by omega) (by simp only [hiK]; omega) ?_ | refine ev_index rfl rfl tabOk rfl rfl rfl (by omega) (by omega) ?_ | refine ev_indexA rfl rfl tabOk rfl rfl rfl (by omega) (by omega) rfl ?_ | refine ev_convB rfl rfl tabOk rfl rfl rfl rfl ?_ | refine ev_conv rfl rfl tabOk rfl rfl rfl (by simp only [lowK, hiK]; omega) ?_)
    refine ev_condD rfl (fun c4 => ?_) (fun c4 => ?_)
    · have hf : farQ l = some y := List.find?_range_eq_some.2 ⟨by rw [← hx]; simpa using c4, List.mem_range.2 hyl, fun j hj => by simpa using hz j hj⟩
      rw [hf, Option.elim_some]
      repeat (first | refine sA [] rfl ?_ | refine sB [] rfl ?_ | refine sC [] rfl ?_ | refine sD [] rfl ?_ | refine ev_load rfl rfl tabOk rfl rfl ‹_› ?_ | refine ev_loadB rfl rfl tabOk rfl rfl ‹_› (by rfl) ?_ | refine ev_loadAggB rfl rfl tabOk rfl rfl ‹_› (by rfl) ?_ | refine ev_arith rfl rfl rfl rfl rfl (by simp only [lowK, hiK]; omega) ?_ | refine ev_rem rfl rfl rfl rfl (by omega) (by omega) ?_ | refine ev_quo rfl rfl rfl rfl (by omega) (by omega) (by simp only [hiK]; omega) ?_ | refine ev_index rfl rfl tabOk rfl rfl rfl (by omega) (by omega) ?_ | refine ev_indexA rfl rfl tabOk rfl rfl rfl (by omega) (by omega) rfl ?_ | refine ev_convB rfl rfl tabOk rfl rfl rfl rfl ?_ | refine ev_conv rfl rfl tabOk rfl rfl rfl (by simp only [lowK, hiK]; omega) ?_)
      exact ret3 (.inr rfl) rfl rfl rfl rfl ⟨rfl, hfb⟩
    · repeat (first | refine sA [] rfl ?_ | refine sB [] rfl ?_ | refine sC [] rfl ?_ | refine sD [] rfl ?_ | refine ev_load rfl rfl tabOk rfl rfl ‹_› ?_ | refine ev_loadB rfl rfl tabOk rfl rfl ‹_› (by rfl) ?_ | refine ev_loadAggB rfl rfl tabOk rfl rfl ‹_› (by rfl) ?_ | refine ev_arith rfl rfl rfl rfl rfl (by simp only [lowK, hiK]; omega) ?_ | refine ev_rem rfl rfl rfl rfl (by omega) (by omega) ?_ | refine ev_quo rfl rfl rfl rfl (by omega) (by omega) (by simp only [hiK]; omega) ?_ | refine ev_index rfl rfl tabOk rfl rfl rfl (by omega) (by omega) ?_ | refine ev_indexA rfl rfl tabOk rfl rfl rfl (by omega) (by omega) rfl ?_ | refine ev_convB rfl rfl tabOk rfl rfl rfl rfl ?_ | refine ev_conv rfl rfl tabOk rfl rfl rfl (by simp only [lowK, hiK]; omega) ?_)
      refine ev_next (y + 1) (by omega) ⟨by omega, hfb, hA, fun i hi => by
        by_cases h : i = y
        · rw [h, ← hx]; exact c4
        · exact hz i (by omega)⟩ ⟨rfl, rfl, by rw [show ((y + 1 : Nat) : Int) = (y : Int) + 1 by omega]; rfl, trivial⟩
  · have hf : farQ l = none := List.find?_eq_none.2 fun i hi => by simpa using hz i (by have := List.mem_range.1 hi; omega)
    rw [hf, Option.elim_none]
    repeat (first | refine sA [] rfl ?_ | refine sB [] rfl ?_ | refine sC [] rfl ?_ | refine sD [] rfl ?_ | refine ev_load rfl rfl tabOk rfl rfl ‹_› ?_ | refine ev_loadB rfl rfl tabOk rfl rfl ‹_› (by rfl) ?_ | refine ev_loadAggB rfl rfl tabOk rfl rfl ‹_› (by rfl) ?_ | refine ev_arith rfl rfl rfl rfl rfl (by simp only [lowK, hiK]; omega) ?_ | refine ev_rem rfl rfl rfl rfl (by omega) (by omega) ?_ | refine ev_quo rfl rfl rfl rfl (by omega) (by omega) (by simp only [hiK]; omega) ?_ | refine ev_index rfl rfl tabOk rfl rfl rfl (by omega) (by omega) ?_ | refine ev_indexA rfl rfl tabOk rfl rfl rfl (by omega) (by omega) rfl ?_ | refine ev_convB rfl rfl tabOk rfl rfl rfl rfl ?_ | refine ev_conv rfl rfl tabOk rfl rfl rfl (by simp only [lowK, hiK]; omega) ?_)
    exact ret3 (.inr rfl) rfl rfl rfl rfl ⟨rfl, hfb⟩
end Go.Wk.YtdelgnflcfhhkaaGreatDoor
namespace Go.Wk.YtdelgnflcfhhkaaGreatDoor
open Go Go.Wk Go.Proofs
/-- a model's rows are as long as this -/
structure LenQ (d h : Nat) (b : Bk (List Int8)) : Prop where
  g1 : b.g1.length = d
  q : b.q.length = d * d
  k : b.k.length = d * d
  v : b.v.length = d * d
  o : b.o.length = d * d
  g2 : b.g2.length = d
  ga : b.ga.length = h * d
  up : b.up.length = h * d
  dn : b.dn.length = d * h
theorem lenQ_blkF (d h st : Nat) : LenQ d h (blkF d h st) := by
  unfold blkF
  exact ⟨gain_len _, rowQ_len _ _, rowQ_len _ _, rowQ_len _ _, rowQ_len _ _, gain_len _, rowQ_len _ _, rowQ_len _ _, rowQ_len _ _⟩
theorem Sm_sample {m : LM} {s : Shp} {seed : Int} (h : m.p = sampleP s seed) (o : okS s) : m.Sm := by
  have o' := o
  have hh := half_bd o
  obtain ⟨⟨a1, a2⟩, ⟨b1, b2⟩, ⟨d1, d2⟩, k1, k2, k3, ⟨e1, e2⟩, f1, f2⟩ := o
  have b1 : s.voc.toNat * s.dim.toNat ≤ 512 * 64 := Nat.mul_le_mul (by omega) (by omega)
  have b2 : s.ctx.toNat * (halfS s).toNat ≤ 512 * 32 := Nat.mul_le_mul (by omega) (by omega)
  have b3 : s.dim.toNat * s.dim.toNat ≤ 64 * 64 := Nat.mul_le_mul (by omega) (by omega)
  have b4 : s.hid.toNat * s.dim.toNat ≤ 256 * 64 := Nat.mul_le_mul (by omega) (by omega)
  have b5 : s.dim.toNat * s.hid.toNat ≤ 64 * 256 := Nat.mul_le_mul (by omega) (by omega)
  have e : ∀ f : Md → List Int8, f m.p = f (sampleP s seed) := fun f => by rw [h]
  have hb : m.bs.map pBk = (sampleP s seed).bs := congrArg Md.bs h
  have hl : m.bs.length = s.lay.toNat := by rw [lm_bl h]; exact layF_len _ _ _ _
  refine ⟨fun r hr => ?_, fun b hb' => ?_, by omega, by rw [show m.V = (sampleP s seed).V from congrArg Md.V h]; exact sample_VS seed o'⟩
  · simp only [List.mem_cons, List.not_mem_nil, or_false] at hr
    rcases hr with rfl | rfl | rfl | rfl | rfl | rfl
    · rw [show m.e.xs = _ from e Md.e]; exact Nat.le_trans (Nat.le_of_eq (rowQ_len _ _)) (by omega)
    · rw [show m.cos.xs = _ from e Md.cos]; exact Nat.le_trans (Nat.le_of_eq (cosF_len _ _)) (by omega)
    · rw [show m.sin.xs = _ from e Md.sin]; exact Nat.le_trans (Nat.le_of_eq (sinF_len _ _)) (by omega)
    · rw [show m.bend.xs = _ from e Md.bend]; exact Nat.le_trans (Nat.le_of_eq (bendF_len 256)) (by omega)
    · rw [show m.gain.xs = _ from e Md.gain]; exact Nat.le_trans (Nat.le_of_eq (gain_len _)) (by omega)
    · rw [show m.un.xs = _ from e Md.un]; exact Nat.le_trans (Nat.le_of_eq (rowQ_len _ _)) (by omega)
  · have hm : pBk b ∈ (sampleP s seed).bs := by rw [← hb]; exact List.mem_map_of_mem hb'
    obtain ⟨st, e0⟩ := layF_mem hm
    have z := lenQ_blkF s.dim.toNat s.hid.toNat st
    rw [← e0] at z
    intro r hr
    simp only [List.mem_cons, List.not_mem_nil, or_false] at hr
    rcases hr with rfl | rfl | rfl | rfl | rfl | rfl | rfl | rfl | rfl
    · exact Nat.le_trans (Nat.le_of_eq z.g1) (by omega)
    · exact Nat.le_trans (Nat.le_of_eq z.g2) (by omega)
    · exact Nat.le_trans (Nat.le_of_eq z.q) (by omega)
    · exact Nat.le_trans (Nat.le_of_eq z.k) (by omega)
    · exact Nat.le_trans (Nat.le_of_eq z.v) (by omega)
    · exact Nat.le_trans (Nat.le_of_eq z.o) (by omega)
    · exact Nat.le_trans (Nat.le_of_eq z.ga) (by omega)
    · exact Nat.le_trans (Nat.le_of_eq z.up) (by omega)
    · exact Nat.le_trans (Nat.le_of_eq z.dn) (by omega)
end Go.Wk.YtdelgnflcfhhkaaGreatDoor
namespace Go.Wk.YtdelgnflcfhhkaaGreatDoor
open Go Go.Wk Go.Proofs
/-- a row does not lie in this block -/
def CsOff (p : Nat) (A : Option Addr) (xs : List Value) : Prop := xs ≠ [] → ∀ a, A = some a → a.block ≠ p
theorem CsOff.keep {p : Nat} {A : Option Addr} {xs : List Value} {w w' : World} (h : CsOff p A xs) (hc : Cs w A xs) (hf : Fr (fun c => c = p) w w') : Cs w' A xs := fun j u hj => by
  obtain ⟨b, o, e, hcc⟩ := hc j u hj
  refine ⟨b, o, e, cell_fr hcc hf (fun z => ?_)⟩
  have := h (fun e => by rw [e] at hj; simp at hj) _ e
  exact this z
theorem CsOff.lt {p : Nat} {A : Option Addr} {xs : List Value} {w : World} (hc : Cs w A xs) (hp : w.heap.size ≤ p) : CsOff p A xs := fun hne a ha e => by
  cases xs with
  | nil => exact hne rfl
  | cons x l =>
    obtain ⟨b, o, e2, hcc⟩ := hc 0 x rfl
    rw [ha] at e2; cases e2
    have h1 : b < w.heap.size := cell_lt hcc
    have e : b = p := e
    omega
theorem CsOff.own {p e sz n m c : Nat} {A : Option Addr} {xs : List Value} {w : World} (ho : Own w e sz (.slice A n c) m xs) (hp : ∀ g, (Value.slice A n c).ownBlock = some g → g ≠ p) : CsOff p A xs := fun hne a ha e => by
  obtain ⟨A', c', e2, _, h3⟩ := ho.slice
  injection e2 with e3
  rw [← e3] at h3
  exact hp _ (h3 a ha).1 e
/-- a model does not lie in this block -/
structure LM.Off (p : Nat) (m : LM) : Prop where
  t : CsOff p m.tA (m.V.texts.map sv)
  g : CsOff p m.mA (mcs m.V.merges)
  b : CsOff p m.bA (m.bs.flatMap bkC)
  rows : ∀ r ∈ m.rows, CsOff p r.A (r.xs.map i8v)
  bs : ∀ b ∈ m.bs, ∀ r ∈ b.rows, CsOff p r.A (r.xs.map i8v)
theorem LM.At.off {m : LM} {w w' : World} {p : Nat} (h : m.At w) (ho : m.Off p) (hf : Fr (fun c => c = p) w w') : m.At w' :=
  ⟨⟨ho.t.keep h.voc.1 hf, ho.g.keep h.voc.2 hf⟩, fun r hr => (ho.rows r hr).keep (h.rows r hr) hf, ho.b.keep h.blk hf, fun b hb r hr => (ho.bs b hb r hr).keep (h.bs b hb r hr) hf⟩
theorem LM.Off.lt {m : LM} {w : World} {p : Nat} (h : m.At w) (hp : w.heap.size ≤ p) : m.Off p :=
  ⟨CsOff.lt h.voc.1 hp, CsOff.lt h.voc.2 hp, CsOff.lt h.blk hp, fun r hr => CsOff.lt (h.rows r hr) hp, fun b hb r hr => CsOff.lt (h.bs b hb r hr) hp⟩
theorem mem_all1 {m : LM} {r : Rw} (h : r ∈ m.rows) : r ∈ m.all := by
  simp only [List.mem_cons, List.not_mem_nil, or_false] at h
  simp only [LM.all, List.mem_append, List.mem_cons, List.not_mem_nil, or_false]
  rcases h with z | z | z | z | z | z <;> simp [z]
theorem mem_all2 {m : LM} {b : Bk Rw} {r : Rw} (hb : b ∈ m.bs) (h : r ∈ b.rows) : r ∈ m.all := List.mem_append.2 (.inl (List.mem_append.2 (.inr (List.mem_flatMap.2 ⟨b, hb, h⟩))))
theorem OwnM.off {TM TB : TypeId} {w0 w : World} {m : LM} (h : OwnM TM TB w0 w m) {p : Nat} (hp : p < w0.heap.size) : m.Off p := by
  have hr : ∀ r ∈ m.all, CsOff p r.A (r.xs.map i8v) := fun r hr => CsOff.own (h.rows r hr).1 fun g hg e => by have := (h.rows r hr).2 g hg; omega
  exact ⟨CsOff.own h.txt fun g hg e => by have := (h.ge g (.inl hg)).1; omega, CsOff.own h.mrg fun g hg e => by have := (h.ge g (.inr (.inl hg))).1; omega, CsOff.own h.blk fun g hg e => by have := (h.ge g (.inr (.inr hg))).1; omega,
    fun r h' => hr r (mem_all1 h'), fun b hb r h' => hr r (mem_all2 hb h')⟩
end Go.Wk.YtdelgnflcfhhkaaGreatDoor
