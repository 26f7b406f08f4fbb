/-
  Chapter 16: shapes: which are right, half a head, how many numbers.
-/
import Derived.Test.YtfgllkflnkolhaaDoorShE
set_option linter.unusedVariables false
namespace Go.Wk.YtfgllkflnkolhaaDoor
open Go Go.Wk Go.Proofs

structure Shp where
  voc : Int
  ctx : Int
  dim : Int
  hds : Int
  lay : Int
  hid : Int
  deriving DecidableEq
abbrev shpC (s : Shp) : List Value := [i64 s.voc, i64 s.ctx, i64 s.dim, i64 s.hds, i64 s.lay, i64 s.hid]
abbrev shpV (s : Shp) : Value := .agg ⟨shpC s⟩
def okS (s : Shp) : Prop := (2 ≤ s.voc ∧ s.voc ≤ 512) ∧ (1 ≤ s.ctx ∧ s.ctx ≤ 512) ∧ (2 ≤ s.dim ∧ s.dim ≤ 64) ∧ 1 ≤ s.hds ∧ s.dim % s.hds = 0 ∧ s.dim / s.hds % 2 = 0 ∧ (1 ≤ s.lay ∧ s.lay ≤ 8) ∧ (1 ≤ s.hid ∧ s.hid ≤ 256)
instance (s : Shp) : Decidable (okS s) := by unfold okS; infer_instance
def chkS (s : Shp) : Int := if okS s then 0 else 160
theorem chk_y {s : Shp} (h : okS s) : chkS s = 0 := if_pos h
theorem chk_n {s : Shp} (h : ¬ okS s) : chkS s = 160 := if_neg h
def halfS (s : Shp) : Int := if okS s then s.dim / s.hds / 2 else 0
def numS (s : Shp) : Int := if okS s then 2 * s.voc * s.dim + 2 * s.ctx * halfS s + s.lay * (2 * s.dim + 4 * s.dim * s.dim + 3 * s.dim * s.hid) + 256 + s.dim else 0
theorem half_bd {s : Shp} (h : okS s) : 1 ≤ halfS s ∧ halfS s ≤ 32 ∧ s.dim / s.hds = 2 * halfS s := by
  obtain ⟨h1, h2, h3, h4, h5, h6, h7, h8⟩ := h
  have e : halfS s = s.dim / s.hds / 2 := if_pos ⟨h1, h2, h3, h4, h5, h6, h7, h8⟩
  have hb := (ediv_bd (x := s.dim) (d := s.hds) h4).1 (by omega)
  have hm := Int.mul_ediv_add_emod s.dim s.hds
  have hne : s.dim / s.hds ≠ 0 := fun z => by rw [z, h5] at hm; omega
  omega
theorem wBetween (n lo hi : Int) (w : World) : CallsF Tryd.prog 38 [i64 n, i64 lo, i64 hi] w fun r w' => r = .bool (decide (lo ≤ n ∧ n ≤ hi)) ∧ w' = w := by
  refine callsF Tryd.func38 rfl rfl (by decide) rfl ?_
  refine sC [] rfl ?_; refine sC [] rfl ?_; refine sD [] rfl ?_; refine sD [] rfl ?_
  by_cases h1 : lo ≤ n
  · rw [show decide (lo ≤ n) = true from decide_eq_true h1]
    refine sA [] rfl ?_
    exact ret1 (.inr rfl) rfl rfl ⟨congrArg Value.bool (decide_eq_decide.2 ⟨fun h => ⟨h1, h⟩, fun h => h.2⟩), rfl⟩
  · rw [show decide (lo ≤ n) = false from decide_eq_false h1]
    refine sA [] rfl ?_
    exact ret1 (.inr rfl) rfl rfl ⟨congrArg Value.bool (decide_eq_false fun h => h1 h.1).symm, rfl⟩
theorem refWithin (n lo hi : Int) (w : World) : CallsF Tryd.prog 39 [i64 n, i64 lo, i64 hi] w fun r w' => r = .bool (decide (lo ≤ n ∧ n ≤ hi)) ∧ w' = w := by
  refine callsF Tryd.func39 rfl rfl (by decide) rfl ?_
  refine sC [] rfl ?_; refine sC [] rfl ?_; refine sD [] rfl ?_; refine sD [] rfl ?_
  by_cases h1 : lo ≤ n
  · rw [show decide (lo ≤ n) = true from decide_eq_true h1]
    refine sA [] rfl ?_
    exact ret1 (.inr rfl) rfl rfl ⟨congrArg Value.bool (decide_eq_decide.2 ⟨fun h => ⟨h1, h⟩, fun h => h.2⟩), rfl⟩
  · rw [show decide (lo ≤ n) = false from decide_eq_false h1]
    refine sA [] rfl ?_
    exact ret1 (.inr rfl) rfl rfl ⟨congrArg Value.bool (decide_eq_false fun h => h1 h.1).symm, rfl⟩
set_option maxHeartbeats 2000000 in
theorem wChk (s : Shp) (w : World) : CallsF Tryd.prog 15 [shpV s] w fun r w' => r = i64 (chkS s) ∧ Fr no w w' := by
  refine callsF Tryd.func15 rfl rfl (by decide) rfl ?_
  refine sA [] rfl ?_
  refine ev_box rfl rfl rfl (fun b w1 hb hB hf1 => ?_)
  have hB : Blk w1 b (shpC s) _ := hB
  refine sA [] rfl ?_; refine ev_loadB rfl rfl tabOk rfl rfl ‹_› (by rfl) ?_
  refine ev_call rfl rfl rfl (wBetween s.voc 2 512 _) (fun r w2 hr => ?_)
  obtain ⟨rfl, rfl⟩ := hr
  by_cases o1 : 2 ≤ s.voc ∧ s.voc ≤ 512
  case neg =>
    rw [decide_eq_false o1]
    refine sA [] rfl ?_
    exact ret1 (.inr rfl) rfl rfl ⟨by rw [chk_n fun h => o1 h.1], hf1⟩
  rw [decide_eq_true o1]
  refine sA [] rfl ?_; refine ev_loadB rfl rfl tabOk rfl rfl ‹_› (by rfl) ?_
  refine ev_call rfl rfl rfl (wBetween s.ctx 1 512 _) (fun r w2 hr => ?_)
  obtain ⟨rfl, rfl⟩ := hr
  by_cases o2 : 1 ≤ s.ctx ∧ s.ctx ≤ 512
  case neg =>
    rw [decide_eq_false o2]
    refine sA [] rfl ?_
    exact ret1 (.inr rfl) rfl rfl ⟨by rw [chk_n fun h => o2 h.2.1], hf1⟩
  rw [decide_eq_true o2]
  refine sA [] rfl ?_; refine ev_loadB rfl rfl tabOk rfl rfl ‹_› (by rfl) ?_
  refine ev_call rfl rfl rfl (wBetween s.dim 2 64 _) (fun r w2 hr => ?_)
  obtain ⟨rfl, rfl⟩ := hr
  by_cases o3 : 2 ≤ s.dim ∧ s.dim ≤ 64
  case neg =>
    rw [decide_eq_false o3]
    refine sA [] rfl ?_
    exact ret1 (.inr rfl) rfl rfl ⟨by rw [chk_n fun h => o3 h.2.2.1], hf1⟩
  rw [decide_eq_true o3]
  refine sA [] rfl ?_; refine ev_loadB rfl rfl tabOk rfl rfl ‹_› (by rfl) ?_; refine sD [] rfl ?_; refine sD [] rfl ?_; refine sD [] rfl ?_
  by_cases o4 : 1 ≤ s.hds
  case neg =>
    rw [show decide (s.hds < 1) = true from decide_eq_true (by omega)]
    refine sA [] rfl ?_
    exact ret1 (.inr rfl) rfl rfl ⟨by rw [chk_n fun h => o4 h.2.2.2.1], hf1⟩
  rw [show decide (s.hds < 1) = false from decide_eq_false (by omega)]
  refine sA [] rfl ?_; refine ev_loadB rfl rfl tabOk rfl rfl ‹_› (by rfl) ?_; refine sA [] rfl ?_; refine ev_loadB rfl rfl tabOk rfl rfl ‹_› (by rfl) ?_; refine ev_rem rfl rfl rfl rfl (by omega) (by omega) ?_; refine sD [] rfl ?_; refine sD [] rfl ?_; refine sD [] rfl ?_
  by_cases o5 : s.dim % s.hds = 0
  case neg =>
    rw [show decide (¬ s.dim % s.hds = 0) = true from decide_eq_true o5]
    refine sA [] rfl ?_
    exact ret1 (.inr rfl) rfl rfl ⟨by rw [chk_n fun h => o5 h.2.2.2.2.1], hf1⟩
  rw [show decide (¬ s.dim % s.hds = 0) = false from decide_eq_false fun z => z o5]
  have hq := (ediv_bd (x := s.dim) (d := s.hds) o4).1 (by omega)
  refine sA [] rfl ?_; refine ev_loadB rfl rfl tabOk rfl rfl ‹_› (by rfl) ?_; refine sA [] rfl ?_; refine ev_loadB rfl rfl tabOk rfl rfl ‹_› (by rfl) ?_; refine ev_quo rfl rfl rfl rfl (by omega) (by omega) (by simp only [hiK]; omega) ?_; refine ev_rem rfl rfl rfl rfl (by omega) (by omega) ?_; refine sD [] rfl ?_; refine sD [] rfl ?_; refine sD [] rfl ?_
  by_cases o6 : s.dim / s.hds % 2 = 0
  case neg =>
    rw [show decide (¬ s.dim / s.hds % 2 = 0) = true from decide_eq_true o6]
    refine sA [] rfl ?_
    exact ret1 (.inr rfl) rfl rfl ⟨by rw [chk_n fun h => o6 h.2.2.2.2.2.1], hf1⟩
  rw [show decide (¬ s.dim / s.hds % 2 = 0) = false from decide_eq_false fun z => z o6]
  refine sA [] rfl ?_; refine ev_loadB rfl rfl tabOk rfl rfl ‹_› (by rfl) ?_
  refine ev_call rfl rfl rfl (wBetween s.lay 1 8 _) (fun r w2 hr => ?_)
  obtain ⟨rfl, rfl⟩ := hr
  by_cases o7 : 1 ≤ s.lay ∧ s.lay ≤ 8
  case neg =>
    rw [decide_eq_false o7]
    refine sA [] rfl ?_
    exact ret1 (.inr rfl) rfl rfl ⟨by rw [chk_n fun h => o7 h.2.2.2.2.2.2.1], hf1⟩
  rw [decide_eq_true o7]
  refine sA [] rfl ?_; refine ev_loadB rfl rfl tabOk rfl rfl ‹_› (by rfl) ?_
  refine ev_call rfl rfl rfl (wBetween s.hid 1 256 _) (fun r w2 hr => ?_)
  obtain ⟨rfl, rfl⟩ := hr
  by_cases o8 : 1 ≤ s.hid ∧ s.hid ≤ 256
  case neg =>
    rw [decide_eq_false o8]
    refine sA [] rfl ?_
    exact ret1 (.inr rfl) rfl rfl ⟨by rw [chk_n fun h => o8 h.2.2.2.2.2.2.2], hf1⟩
  rw [decide_eq_true o8]
  refine sA [] rfl ?_
  exact ret1 (.inr rfl) rfl rfl ⟨by rw [chk_y ⟨o1, o2, o3, o4, o5, o6, o7, o8⟩], hf1⟩
set_option maxHeartbeats 2000000 in
theorem refChk (s : Shp) (w : World) : CallsF Tryd.prog 16 [shpV s] w fun r w' => r = i64 (chkS s) ∧ Fr no w w' := by
  refine callsF Tryd.func16 rfl rfl (by decide) rfl ?_
  refine sA [] rfl ?_
  refine ev_box rfl rfl rfl (fun b w1 hb hB hf1 => ?_)
  have hB : Blk w1 b (shpC s) _ := hB
  refine sA [] rfl ?_; refine ev_loadB rfl rfl tabOk rfl rfl ‹_› (by rfl) ?_
  refine ev_call rfl rfl rfl (refWithin s.voc 2 512 _) (fun r w2 hr => ?_)
  obtain ⟨rfl, rfl⟩ := hr
  by_cases o1 : 2 ≤ s.voc ∧ s.voc ≤ 512
  case neg =>
    rw [decide_eq_false o1]
    refine sA [] rfl ?_
    exact ret1 (.inr rfl) rfl rfl ⟨by rw [chk_n fun h => o1 h.1], hf1⟩
  rw [decide_eq_true o1]
  refine sA [] rfl ?_; refine ev_loadB rfl rfl tabOk rfl rfl ‹_› (by rfl) ?_
  refine ev_call rfl rfl rfl (refWithin s.ctx 1 512 _) (fun r w2 hr => ?_)
  obtain ⟨rfl, rfl⟩ := hr
  by_cases o2 : 1 ≤ s.ctx ∧ s.ctx ≤ 512
  case neg =>
    rw [decide_eq_false o2]
    refine sA [] rfl ?_
    exact ret1 (.inr rfl) rfl rfl ⟨by rw [chk_n fun h => o2 h.2.1], hf1⟩
  rw [decide_eq_true o2]
  refine sA [] rfl ?_; refine ev_loadB rfl rfl tabOk rfl rfl ‹_› (by rfl) ?_
  refine ev_call rfl rfl rfl (refWithin s.dim 2 64 _) (fun r w2 hr => ?_)
  obtain ⟨rfl, rfl⟩ := hr
  by_cases o3 : 2 ≤ s.dim ∧ s.dim ≤ 64
  case neg =>
    rw [decide_eq_false o3]
    refine sA [] rfl ?_
    exact ret1 (.inr rfl) rfl rfl ⟨by rw [chk_n fun h => o3 h.2.2.1], hf1⟩
  rw [decide_eq_true o3]
  refine sA [] rfl ?_; refine ev_loadB rfl rfl tabOk rfl rfl ‹_› (by rfl) ?_
  refine ev_call rfl rfl rfl (refWithin s.lay 1 8 _) (fun r w2 hr => ?_)
  obtain ⟨rfl, rfl⟩ := hr
  by_cases o7 : 1 ≤ s.lay ∧ s.lay ≤ 8
  case neg =>
    rw [decide_eq_false o7]
    refine sA [] rfl ?_
    exact ret1 (.inr rfl) rfl rfl ⟨by rw [chk_n fun h => o7 h.2.2.2.2.2.2.1], hf1⟩
  rw [decide_eq_true o7]
  refine sA [] rfl ?_; refine ev_loadB rfl rfl tabOk rfl rfl ‹_› (by rfl) ?_
  refine ev_call rfl rfl rfl (refWithin s.hid 1 256 _) (fun r w2 hr => ?_)
  obtain ⟨rfl, rfl⟩ := hr
  by_cases o8 : 1 ≤ s.hid ∧ s.hid ≤ 256
  case neg =>
    rw [decide_eq_false o8]
    refine sA [] rfl ?_
    exact ret1 (.inr rfl) rfl rfl ⟨by rw [chk_n fun h => o8 h.2.2.2.2.2.2.2], hf1⟩
  rw [decide_eq_true o8]
  refine sA [] rfl ?_; refine ev_loadB rfl rfl tabOk rfl rfl ‹_› (by rfl) ?_; refine sD [] rfl ?_; refine sD [] rfl ?_
  by_cases o4 : 1 ≤ s.hds
  case neg =>
    rw [show decide (s.hds < 1) = true from decide_eq_true (by omega)]
    refine sA [] rfl ?_
    exact ret1 (.inr rfl) rfl rfl ⟨by rw [chk_n fun h => o4 h.2.2.2.1], hf1⟩
  rw [show decide (s.hds < 1) = false from decide_eq_false (by omega)]
  refine sA [] rfl ?_; refine ev_loadB rfl rfl tabOk rfl rfl ‹_› (by rfl) ?_; refine sA [] rfl ?_; refine ev_loadB rfl rfl tabOk rfl rfl ‹_› (by rfl) ?_; refine ev_rem rfl rfl rfl rfl (by omega) (by omega) ?_; refine sD [] rfl ?_; refine sD [] rfl ?_; refine sD [] rfl ?_
  by_cases o5 : s.dim % s.hds = 0
  case neg =>
    rw [show decide (¬ s.dim % s.hds = 0) = true from decide_eq_true o5]
    refine sA [] rfl ?_
    exact ret1 (.inr rfl) rfl rfl ⟨by rw [chk_n fun h => o5 h.2.2.2.2.1], hf1⟩
  rw [show decide (¬ s.dim % s.hds = 0) = false from decide_eq_false fun z => z o5]
  have hq := (ediv_bd (x := s.dim) (d := s.hds) o4).1 (by omega)
  refine sA [] rfl ?_; refine ev_loadB rfl rfl tabOk rfl rfl ‹_› (by rfl) ?_; refine sA [] rfl ?_; refine ev_loadB rfl rfl tabOk rfl rfl ‹_› (by rfl) ?_; refine ev_quo rfl rfl rfl rfl (by omega) (by omega) (by simp only [hiK]; omega) ?_; refine ev_rem rfl rfl rfl rfl (by omega) (by omega) ?_; refine sD [] rfl ?_; refine sD [] rfl ?_; refine sD [] rfl ?_
  by_cases o6 : s.dim / s.hds % 2 = 0
  case neg =>
    rw [show decide (¬ s.dim / s.hds % 2 = 0) = true from decide_eq_true o6]
    refine sA [] rfl ?_
    exact ret1 (.inr rfl) rfl rfl ⟨by rw [chk_n fun h => o6 h.2.2.2.2.2.1], hf1⟩
  rw [show decide (¬ s.dim / s.hds % 2 = 0) = false from decide_eq_false fun z => z o6]
  refine sA [] rfl ?_
  exact ret1 (.inr rfl) rfl rfl ⟨by rw [chk_y ⟨o1, o2, o3, o4, o5, o6, o7, o8⟩], hf1⟩
theorem wHalf (s : Shp) (w : World) : CallsF Tryd.prog 17 [shpV s] w fun r w' => r = i64 (halfS s) ∧ Fr no w w' := by
  refine callsF Tryd.func17 rfl rfl (by decide) rfl ?_
  refine sA [] rfl ?_
  refine ev_box rfl rfl rfl (fun b w1 hb hB hf1 => ?_)
  have hB : Blk w1 b (shpC s) _ := hB
  refine sA [] rfl ?_; refine ev_loadAggB rfl rfl tabOk rfl rfl ‹_› (by rfl) ?_
  refine ev_call rfl rfl rfl (wChk s _) (fun r w2 hr => ?_)
  obtain ⟨rfl, hf2⟩ := hr
  have hf2 := hf1.tr hf2
  have hB := hB.fr0 (show Fr no w1 w2 by assumption)
  by_cases o : okS s
  · rw [chk_y o]
    have h := o
    obtain ⟨h1, h2, h3, h4, h5, h6, h7, h8⟩ := h
    have hq := (ediv_bd (x := s.dim) (d := s.hds) h4).1 (by omega)
    refine sA [] rfl ?_; refine ev_loadB rfl rfl tabOk rfl rfl ‹_› (by rfl) ?_; refine sA [] rfl ?_; refine ev_loadB rfl rfl tabOk rfl rfl ‹_› (by rfl) ?_; refine ev_quo rfl rfl rfl rfl (by omega) (by omega) (by simp only [hiK]; omega) ?_; refine ev_quo rfl rfl rfl rfl (by omega) (by omega) (by simp only [hiK]; omega) ?_; refine sA [] rfl ?_
    exact ret1 (.inr rfl) rfl rfl ⟨by unfold halfS; rw [if_pos o], hf2⟩
  · rw [chk_n o]
    refine sA [] rfl ?_
    exact ret1 (.inr rfl) rfl rfl ⟨by unfold halfS; rw [if_neg o], hf2⟩
theorem refHalf (s : Shp) (w : World) : CallsF Tryd.prog 18 [shpV s] w fun r w' => r = i64 (halfS s) ∧ Fr no w w' := by
  refine callsF Tryd.func18 rfl rfl (by decide) rfl ?_
  refine sA [] rfl ?_
  refine ev_box rfl rfl rfl (fun b w1 hb hB hf1 => ?_)
  have hB : Blk w1 b (shpC s) _ := hB
  refine sA [] rfl ?_; refine ev_loadAggB rfl rfl tabOk rfl rfl ‹_› (by rfl) ?_
  refine ev_call rfl rfl rfl (refChk s _) (fun r w2 hr => ?_)
  obtain ⟨rfl, hf2⟩ := hr
  have hf2 := hf1.tr hf2
  have hB := hB.fr0 (show Fr no w1 w2 by assumption)
  by_cases o : okS s
  · rw [chk_y o]
    have h := o
    obtain ⟨h1, h2, h3, h4, h5, h6, h7, h8⟩ := h
    have hq := (ediv_bd (x := s.dim) (d := s.hds) h4).1 (by omega)
    refine sA [] rfl ?_; refine ev_loadB rfl rfl tabOk rfl rfl ‹_› (by rfl) ?_; refine sA [] rfl ?_; refine ev_loadB rfl rfl tabOk rfl rfl ‹_› (by rfl) ?_; refine ev_quo rfl rfl rfl rfl (by omega) (by omega) (by simp only [hiK]; omega) ?_; refine ev_quo rfl rfl rfl rfl (by omega) (by omega) (by simp only [hiK]; omega) ?_; refine sA [] rfl ?_
    exact ret1 (.inr rfl) rfl rfl ⟨by unfold halfS; rw [if_pos o], hf2⟩
  · rw [chk_n o]
    refine sA [] rfl ?_
    exact ret1 (.inr rfl) rfl rfl ⟨by unfold halfS; rw [if_neg o], hf2⟩
theorem mul_bd {a b m k : Int} (h0 : 0 ≤ a) (h1 : a ≤ m) (h2 : 0 ≤ b) (h3 : b ≤ k) : 0 ≤ a * b ∧ a * b ≤ m * k :=
  ⟨Int.mul_nonneg h0 h2, Int.mul_le_mul h1 h3 h2 (Int.le_trans h0 h1)⟩
set_option maxHeartbeats 2000000 in
theorem wNum (s : Shp) (w : World) : CallsF Tryd.prog 12 [shpV s] w fun r w' => r = .tuple #[i64 (numS s), i64 (chkS s)] ∧ Fr no w w' := by
  refine callsF Tryd.func12 rfl rfl (by decide) rfl ?_
  refine sA [] rfl ?_
  refine ev_box rfl rfl rfl (fun b w1 hb hB hf1 => ?_)
  have hB : Blk w1 b (shpC s) _ := hB
  refine sA [] rfl ?_; refine ev_loadAggB rfl rfl tabOk rfl rfl ‹_› (by rfl) ?_
  refine ev_call rfl rfl rfl (wChk s _) (fun r w2 hr => ?_)
  obtain ⟨rfl, hf2⟩ := hr
  have hF2 := hf1.tr hf2
  have hB2 := hB.fr0 hf2
  clear hB
  by_cases o : okS s
  · rw [chk_y o]
    obtain ⟨k1, k2, k3⟩ := half_bd o
    have h := o
    obtain ⟨h1, h2, h3, h4, h5, h6, h7, h8⟩ := h
    have m1 : 0 ≤ 4 * s.dim * s.dim ∧ 4 * s.dim * s.dim ≤ 256 * 64 := mul_bd (by omega) (by omega) (by omega) (by omega)
    have m2 : 0 ≤ 3 * s.dim * s.hid ∧ 3 * s.dim * s.hid ≤ 192 * 256 := mul_bd (by omega) (by omega) (by omega) (by omega)
    have m3 : 0 ≤ 2 * s.voc * s.dim ∧ 2 * s.voc * s.dim ≤ 1024 * 64 := mul_bd (by omega) (by omega) (by omega) (by omega)
    have m4 : 0 ≤ 2 * s.ctx * halfS s ∧ 2 * s.ctx * halfS s ≤ 1024 * 32 := mul_bd (by omega) (by omega) (by omega) (by omega)
    have m5 : 0 ≤ s.lay * (2 * s.dim + 4 * s.dim * s.dim + 3 * s.dim * s.hid) ∧ s.lay * (2 * s.dim + 4 * s.dim * s.dim + 3 * s.dim * s.hid) ≤ 8 * 100000 := mul_bd (by omega) (by omega) (by omega) (by omega)
    refine sA [] rfl ?_; refine ev_loadB rfl rfl tabOk rfl rfl ‹_› (by rfl) ?_; refine ev_arith rfl rfl rfl rfl rfl (by simp only [lowK, hiK]; omega) ?_; refine sA [] rfl ?_; refine ev_loadB rfl rfl tabOk rfl rfl ‹_› (by rfl) ?_; refine ev_arith rfl rfl rfl rfl rfl (by simp only [lowK, hiK]; omega) ?_; refine sA [] rfl ?_; refine ev_loadB rfl rfl tabOk rfl rfl ‹_› (by rfl) ?_; refine ev_arith rfl rfl rfl rfl rfl (by simp only [lowK, hiK]; omega) ?_; refine ev_arith rfl rfl rfl rfl rfl (by simp only [lowK, hiK]; omega) ?_; refine sA [] rfl ?_; refine ev_loadB rfl rfl tabOk rfl rfl ‹_› (by rfl) ?_; refine ev_arith rfl rfl rfl rfl rfl (by simp only [lowK, hiK]; omega) ?_; refine sA [] rfl ?_; refine ev_loadB rfl rfl tabOk rfl rfl ‹_› (by rfl) ?_; refine ev_arith rfl rfl rfl rfl rfl (by simp only [lowK, hiK]; omega) ?_; refine ev_arith rfl rfl rfl rfl rfl (by simp only [lowK, hiK]; omega) ?_; refine sA [] rfl ?_
    refine ev_draw mixed (by kernel_rfl) ?_
    refine qA rfl ?_; refine q_loadB rfl rfl tabOk rfl rfl ‹_› (by rfl) ?_; refine q_arith rfl rfl rfl rfl rfl (by simp only [lowK, hiK]; omega) ?_; refine qA rfl ?_; refine q_loadB rfl rfl tabOk rfl rfl ‹_› (by rfl) ?_; refine q_arith rfl rfl rfl rfl rfl (by simp only [lowK, hiK]; omega) ?_; refine qA rfl ?_; refine q_loadB rfl rfl tabOk rfl rfl ‹_› (by rfl) ?_; refine q_arith rfl rfl rfl rfl rfl (by simp only [lowK, hiK]; omega) ?_; refine q_loadAggB rfl rfl tabOk rfl rfl ‹_› (by rfl) ?_
    refine q_call rfl rfl rfl (fun w' hw' => (wHalf s w').mono fun u w'' z => ⟨z.1, hw'.tr z.2⟩) ?_
    refine q_arith rfl rfl rfl rfl rfl (by simp only [lowK, hiK]; omega) ?_; refine q_arith rfl rfl rfl rfl rfl (by simp only [lowK, hiK]; omega) ?_; refine qA rfl ?_; refine q_loadB rfl rfl tabOk rfl rfl ‹_› (by rfl) ?_; refine qA rfl ?_; refine q_arith rfl rfl rfl rfl rfl (by simp only [lowK, hiK]; omega) ?_; refine q_arith rfl rfl rfl rfl rfl (by simp only [lowK, hiK]; omega) ?_; refine q_arith rfl rfl rfl rfl rfl (by simp only [lowK, hiK]; omega) ?_; refine qA rfl ?_; refine q_loadB rfl rfl tabOk rfl rfl ‹_› (by rfl) ?_; refine q_arith rfl rfl rfl rfl rfl (by simp only [lowK, hiK]; omega) ?_; refine qA rfl ?_
    refine q_end fun w3 hf3 => ?_
    refine sA [] rfl ?_
    exact ret2 (.inr rfl) rfl rfl rfl ⟨by unfold numS; rw [if_pos o], hF2.tr hf3⟩
  · rw [chk_n o]
    refine sA [] rfl ?_
    exact ret2 (.inr rfl) rfl rfl rfl ⟨by unfold numS; rw [if_neg o], hF2⟩
set_option maxHeartbeats 2000000 in
theorem refNum (s : Shp) (w : World) : CallsF Tryd.prog 13 [shpV s] w fun r w' => r = .tuple #[i64 (numS s), i64 (chkS s)] ∧ Fr no w w' := by
  refine callsF Tryd.func13 rfl rfl (by decide) rfl ?_
  refine sA [] rfl ?_
  refine ev_box rfl rfl rfl (fun b w1 hb hB hf1 => ?_)
  have hB : Blk w1 b (shpC s) _ := hB
  refine sA [] rfl ?_; refine ev_loadAggB rfl rfl tabOk rfl rfl ‹_› (by rfl) ?_
  refine ev_call rfl rfl rfl (refChk s _) (fun r w2 hr => ?_)
  obtain ⟨rfl, hf2⟩ := hr
  have hF2 := hf1.tr hf2
  have hB2 := hB.fr0 hf2
  clear hB
  by_cases o : okS s
  · rw [chk_y o]
    obtain ⟨k1, k2, k3⟩ := half_bd o
    have h := o
    obtain ⟨h1, h2, h3, h4, h5, h6, h7, h8⟩ := h
    have m1 : 0 ≤ 4 * s.dim * s.dim ∧ 4 * s.dim * s.dim ≤ 256 * 64 := mul_bd (by omega) (by omega) (by omega) (by omega)
    have m2 : 0 ≤ 3 * s.dim * s.hid ∧ 3 * s.dim * s.hid ≤ 192 * 256 := mul_bd (by omega) (by omega) (by omega) (by omega)
    have m3 : 0 ≤ 2 * s.voc * s.dim ∧ 2 * s.voc * s.dim ≤ 1024 * 64 := mul_bd (by omega) (by omega) (by omega) (by omega)
    have m4 : 0 ≤ 2 * s.ctx * halfS s ∧ 2 * s.ctx * halfS s ≤ 1024 * 32 := mul_bd (by omega) (by omega) (by omega) (by omega)
    have m5 : 0 ≤ s.lay * (2 * s.dim + 4 * s.dim * s.dim + 3 * s.dim * s.hid) ∧ s.lay * (2 * s.dim + 4 * s.dim * s.dim + 3 * s.dim * s.hid) ≤ 8 * 100000 := mul_bd (by omega) (by omega) (by omega) (by omega)
    refine sA [] rfl ?_; refine ev_loadB rfl rfl tabOk rfl rfl ‹_› (by rfl) ?_; refine ev_arith rfl rfl rfl rfl rfl (by simp only [lowK, hiK]; omega) ?_; refine sA [] rfl ?_; refine ev_loadB rfl rfl tabOk rfl rfl ‹_› (by rfl) ?_; refine ev_arith rfl rfl rfl rfl rfl (by simp only [lowK, hiK]; omega) ?_; refine sA [] rfl ?_; refine ev_loadB rfl rfl tabOk rfl rfl ‹_› (by rfl) ?_; refine ev_arith rfl rfl rfl rfl rfl (by simp only [lowK, hiK]; omega) ?_; refine ev_arith rfl rfl rfl rfl rfl (by simp only [lowK, hiK]; omega) ?_; refine sA [] rfl ?_; refine ev_loadB rfl rfl tabOk rfl rfl ‹_› (by rfl) ?_; refine ev_arith rfl rfl rfl rfl rfl (by simp only [lowK, hiK]; omega) ?_; refine sA [] rfl ?_; refine ev_loadB rfl rfl tabOk rfl rfl ‹_› (by rfl) ?_; refine ev_arith rfl rfl rfl rfl rfl (by simp only [lowK, hiK]; omega) ?_; refine ev_arith rfl rfl rfl rfl rfl (by simp only [lowK, hiK]; omega) ?_; refine sA [] rfl ?_
    refine ev_draw mixed (by kernel_rfl) ?_
    refine qA rfl ?_; refine q_loadB rfl rfl tabOk rfl rfl ‹_› (by rfl) ?_; refine q_arith rfl rfl rfl rfl rfl (by simp only [lowK, hiK]; omega) ?_; refine qA rfl ?_; refine q_loadB rfl rfl tabOk rfl rfl ‹_› (by rfl) ?_; refine q_arith rfl rfl rfl rfl rfl (by simp only [lowK, hiK]; omega) ?_; refine qA rfl ?_; refine q_loadB rfl rfl tabOk rfl rfl ‹_› (by rfl) ?_; refine q_arith rfl rfl rfl rfl rfl (by simp only [lowK, hiK]; omega) ?_; refine q_loadAggB rfl rfl tabOk rfl rfl ‹_› (by rfl) ?_
    refine q_call rfl rfl rfl (fun w' hw' => (refHalf s w').mono fun u w'' z => ⟨z.1, hw'.tr z.2⟩) ?_
    refine q_arith rfl rfl rfl rfl rfl (by simp only [lowK, hiK]; omega) ?_; refine q_arith rfl rfl rfl rfl rfl (by simp only [lowK, hiK]; omega) ?_; refine qA rfl ?_; refine q_loadB rfl rfl tabOk rfl rfl ‹_› (by rfl) ?_; refine qA rfl ?_; refine q_arith rfl rfl rfl rfl rfl (by simp only [lowK, hiK]; omega) ?_; refine q_arith rfl rfl rfl rfl rfl (by simp only [lowK, hiK]; omega) ?_; refine q_arith rfl rfl rfl rfl rfl (by simp only [lowK, hiK]; omega) ?_; refine qA rfl ?_; refine q_loadB rfl rfl tabOk rfl rfl ‹_› (by rfl) ?_; refine q_arith rfl rfl rfl rfl rfl (by simp only [lowK, hiK]; omega) ?_; refine qA rfl ?_
    refine q_end fun w3 hf3 => ?_
    refine sA [] rfl ?_
    exact ret2 (.inr rfl) rfl rfl rfl ⟨by unfold numS; rw [if_pos o], hF2.tr hf3⟩
  · rw [chk_n o]
    refine sA [] rfl ?_
    exact ret2 (.inr rfl) rfl rfl rfl ⟨by unfold numS; rw [if_neg o], hF2⟩
theorem lPlain (s : Shp) (w : World) : CallsF Tryd.prog 14 [shpV s] w fun r w' => r = shpV s ∧ Fr no w w' := by
  refine callsF Tryd.func14 rfl rfl (by decide) rfl ?_
  refine sA [] rfl ?_
  refine ev_box rfl rfl rfl (fun b w1 hb hB hf1 => ?_)
  have hB : Blk w1 b (shpC s) _ := hB
  refine ev_alloc rfl rfl inf30 (fun c w2 hc hC hf2 => ?_)
  have hB2 := hB.fr0 hf2
  clear hB
  refine sA [] rfl ?_; refine ev_loadB rfl rfl tabOk rfl rfl ‹_› (by rfl) ?_; refine sA [] rfl ?_; refine ev_loadB rfl rfl tabOk rfl rfl ‹_› (by rfl) ?_; refine sA [] rfl ?_; refine ev_loadB rfl rfl tabOk rfl rfl ‹_› (by rfl) ?_; refine sA [] rfl ?_; refine ev_loadB rfl rfl tabOk rfl rfl ‹_› (by rfl) ?_; refine sA [] rfl ?_; refine ev_loadB rfl rfl tabOk rfl rfl ‹_› (by rfl) ?_; refine sA [] rfl ?_; refine ev_loadB rfl rfl tabOk rfl rfl ‹_› (by rfl) ?_
  refine ev_build rfl rfl (v := shpV s) rfl (fun w => by kernel_rfl) ?_
  refine ev_storeAgg tabOk rfl rfl rfl rfl rfl rfl hC rfl (fun w3 hC3 hf3 => ?_)
  have hF3 : Fr no w w3 := (hf1.tr hf2).trans hf3 fun z hz e => by have : z = c := e; have := hf1.size; omega
  refine sA [] rfl ?_
  exact retG tabOk (.inr rfl) rfl [shpV s] ⟨⟨_, rfl, .inl ⟨rfl, _, rfl, rfl, Cs.of_blk hC3⟩⟩, trivial⟩ ⟨rfl, hF3⟩
def tinyS : Shp := ⟨3, 4, 2, 1, 1, 2⟩
theorem lTiny (w : World) : CallsF Tryd.prog 37 [] w fun r w' => r = shpV tinyS ∧ Fr no w w' := by
  refine callsF Tryd.func37 rfl rfl (by decide) rfl ?_
  refine sA [] rfl ?_
  refine ev_alloc rfl rfl inf23 (fun c w2 hc hC hf2 => ?_)
  refine sA [] rfl ?_
  refine ev_build rfl rfl (v := shpV tinyS) rfl (fun w => by kernel_rfl) ?_
  refine ev_storeAgg tabOk rfl rfl rfl rfl rfl rfl hC rfl (fun w3 hC3 hf3 => ?_)
  have hF3 : Fr no w w3 := hf2.trans hf3 fun z hz e => by have : z = c := e; omega
  refine sA [] rfl ?_
  exact retG tabOk (.inr rfl) rfl [shpV tinyS] ⟨⟨_, rfl, .inl ⟨rfl, _, rfl, rfl, Cs.of_blk hC3⟩⟩, trivial⟩ ⟨rfl, hF3⟩
end Go.Wk.YtfgllkflnkolhaaDoor
