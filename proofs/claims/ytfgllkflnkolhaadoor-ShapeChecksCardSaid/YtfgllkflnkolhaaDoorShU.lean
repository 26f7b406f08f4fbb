/-
  Chapter 16: Costs and Preset; the laws ShapeChecks and ShapeCosts.
-/
import Derived.Test.YtfgllkflnkolhaaDoorShT
set_option linter.unusedVariables false
namespace Go.Wk.YtfgllkflnkolhaaDoor
open Go Go.Wk Go.Proofs

set_option maxHeartbeats 4000000 in
theorem lawChecks (s : Shp) (w : World) (hT : QT w) : CallsF Tryd.prog 3 [shpV s] w fun r w' => r = .bool true ∧ Fr no w w' := by
  refine callsF Tryd.func3 rfl rfl (by decide) rfl ?_
  refine sA [] rfl ?_
  refine ev_box rfl rfl rfl fun p w1 hp kp f1 => ?_
  refine sA [] rfl ?_
  refine ev_call rfl rfl rfl (lAwake w1 (hT.fr0 f1)) ?_
  rintro r w2 ⟨rfl, f2⟩
  have kp2 := kp.fr0 f2
  have hf2 := f1.tr f2
  refine sA [] rfl ?_; refine ev_loadAggB rfl rfl tabOk rfl rfl ‹_› (by rfl) ?_
  refine ev_call rfl rfl rfl (wNum s w2) ?_
  rintro r w3 ⟨rfl, f3⟩
  have kp3 := kp2.fr0 f3
  have hf3 := hf2.tr f3
  clear kp kp2
  refine sA [] rfl ?_; refine ev_loadAggB rfl rfl tabOk rfl rfl ‹_› (by rfl) ?_
  refine ev_call rfl rfl rfl (lPlain s w3) ?_
  rintro r w4 ⟨rfl, f4⟩
  have kp4 := kp3.fr0 f4
  have hf4 := hf3.tr f4
  skip
  refine ev_call rfl rfl rfl (refNum s w4) ?_
  rintro r w5 ⟨rfl, f5⟩
  have kp5 := kp4.fr0 f5
  have hf5 := hf4.tr f5
  clear kp3 kp4
  refine sA [] rfl ?_
  refine ev_draw mixed (by kernel_rfl) ?_
  refine q_loadAggB rfl rfl tabOk rfl rfl ‹_› (by rfl) ?_
  skip
  refine q_call rfl rfl rfl (fun w' hw' => (wChk s w').mono fun u w'' z => ⟨z.1, hw'.tr z.2⟩) ?_
  refine q_loadAggB rfl rfl tabOk rfl rfl ‹_› (by rfl) ?_
  refine q_call rfl rfl rfl (fun w' hw' => (lPlain s w').mono fun u w'' z => ⟨z.1, hw'.tr z.2⟩) ?_
  refine q_call rfl rfl rfl (fun w' hw' => (refChk s w').mono fun u w'' z => ⟨z.1, hw'.tr z.2⟩) ?_
  refine qD rfl ?_; refine qD rfl ?_
  rw [show decide (chkS s = chkS s) = true from decide_eq_true rfl]
  refine q_loadAggB rfl rfl tabOk rfl rfl ‹_› (by rfl) ?_
  skip
  refine q_call rfl rfl rfl (fun w' hw' => (wHalf s w').mono fun u w'' z => ⟨z.1, hw'.tr z.2⟩) ?_
  refine q_loadAggB rfl rfl tabOk rfl rfl ‹_› (by rfl) ?_
  refine q_call rfl rfl rfl (fun w' hw' => (lPlain s w').mono fun u w'' z => ⟨z.1, hw'.tr z.2⟩) ?_
  refine q_call rfl rfl rfl (fun w' hw' => (refHalf s w').mono fun u w'' z => ⟨z.1, hw'.tr z.2⟩) ?_
  refine qD rfl ?_; refine qD rfl ?_; refine qD rfl ?_
  rw [show decide (halfS s = halfS s) = true from decide_eq_true rfl]
  refine qC rfl ?_; refine qD rfl ?_
  rw [show decide (numS s = numS s) = true from decide_eq_true rfl]
  refine qA rfl ?_
  rw [show decide (chkS s = chkS s) = true from decide_eq_true rfl]
  skip
  refine q_end fun w6 f6 => ?_
  refine sA [] rfl ?_
  exact ret1 (.inr rfl) rfl rfl ⟨rfl, hf5.tr f6⟩
/-- what places cost -/
def costQ (s : Shp) (n : Int) : Int × Int × Int × Int × Int :=
  if okS s then if n < 0 ∨ s.ctx < n then (0, 0, 0, 0, 1) else (numS s, 2 * s.dim * s.lay * n, s.lay * (4 * s.dim * s.dim + 2 * s.dim * n + 3 * s.dim * s.hid), s.voc * s.dim, 0) else (0, 0, 0, 0, 160)
abbrev costC (c : Int × Int × Int × Int × Int) : List Value := [i64 c.1, i64 c.2.1, i64 c.2.2.1, i64 c.2.2.2.1]
abbrev costV (c : Int × Int × Int × Int × Int) : Value := .tuple #[.agg ⟨costC c⟩, i64 c.2.2.2.2]
set_option maxHeartbeats 4000000 in
theorem wCosts (s : Shp) (n : Int) (w : World) : CallsF Tryd.prog 28 [shpV s, i64 n] w fun r w' => r = costV (costQ s n) ∧ Fr no w w' := by
  unfold costQ
  refine callsF Tryd.func28 rfl rfl (by decide) rfl ?_
  refine sA [] rfl ?_
  refine ev_box rfl rfl rfl fun p w1 hp kp f1 => ?_
  refine ev_alloc rfl rfl inf78 (fun q w2 hq kq f2 => ?_)
  have kp2 := kp.fr0 f2
  have hf2 := f1.tr f2
  have hpl := kp.lt
  clear kp
  refine sA [] rfl ?_; refine ev_loadAggB rfl rfl tabOk rfl rfl ‹_› (by rfl) ?_
  refine ev_call rfl rfl rfl (wNum s w2) ?_
  rintro r w3 ⟨rfl, f3⟩
  have kp3 := kp2.fr0 f3
  have kq3 := kq.fr0 f3
  have hf3 := hf2.tr f3
  have s1 := f1.size
  clear kp2 kq
  refine sC [] rfl ?_; refine sC [] rfl ?_; refine sC [] rfl ?_; refine sD [] rfl ?_; refine sD [] rfl ?_
  by_cases o : okS s
  case neg =>
    rw [chk_n o, if_neg o]
    refine sA [] rfl ?_
    refine ev_build rfl rfl (v := .agg ⟨costC (0, 0, 0, 0, 160)⟩) rfl (fun w => by kernel_rfl) ?_
    refine sA [] rfl ?_
    refine ev_storeAgg tabOk rfl rfl rfl rfl rfl rfl kq3 rfl (fun wz kz fz => ?_)
    refine sA [] rfl ?_
    exact retG tabOk (.inr rfl) rfl [.agg ⟨costC (0, 0, 0, 0, 160)⟩, i64 160] ⟨⟨_, rfl, .inl ⟨rfl, _, rfl, rfl, Cs.of_blk kz⟩⟩, rfl, trivial⟩ ⟨rfl, hf3.trans fz fun z hz e => by have : z = q := e; omega⟩
  rw [chk_y o, if_pos o]
  refine sC [] rfl ?_; refine sD [] rfl ?_; refine sD [] rfl ?_
  obtain ⟨⟨a1, a2⟩, ⟨b1, b2⟩, ⟨d1, d2⟩, k1, k2, k3, ⟨e1, e2⟩, g1, g2⟩ := o
  by_cases c1 : n < 0
  · rw [show decide (n < 0) = true from decide_eq_true c1, if_pos (.inl c1)]
    refine sA [] rfl ?_
    refine ev_build rfl rfl (v := .agg ⟨costC (0, 0, 0, 0, 1)⟩) rfl (fun w => by kernel_rfl) ?_
    skip
    refine ev_storeAgg tabOk rfl rfl rfl rfl rfl rfl kq3 rfl (fun wz kz fz => ?_)
    refine sA [] rfl ?_
    exact retG tabOk (.inr rfl) rfl [.agg ⟨costC (0, 0, 0, 0, 1)⟩, i64 1] ⟨⟨_, rfl, .inl ⟨rfl, _, rfl, rfl, Cs.of_blk kz⟩⟩, rfl, trivial⟩ ⟨rfl, hf3.trans fz fun z hz e => by have : z = q := e; omega⟩
  rw [show decide (n < 0) = false from decide_eq_false c1]
  refine sA [] rfl ?_; refine ev_loadB rfl rfl tabOk rfl rfl ‹_› (by rfl) ?_; refine sC [] rfl ?_
  by_cases c2 : s.ctx < n
  · rw [show decide (s.ctx < n) = true from decide_eq_true c2, if_pos (.inr c2)]
    refine sA [] rfl ?_
    refine ev_build rfl rfl (v := .agg ⟨costC (0, 0, 0, 0, 1)⟩) rfl (fun w => by kernel_rfl) ?_
    skip
    refine ev_storeAgg tabOk rfl rfl rfl rfl rfl rfl kq3 rfl (fun wz kz fz => ?_)
    refine sA [] rfl ?_
    exact retG tabOk (.inr rfl) rfl [.agg ⟨costC (0, 0, 0, 0, 1)⟩, i64 1] ⟨⟨_, rfl, .inl ⟨rfl, _, rfl, rfl, Cs.of_blk kz⟩⟩, rfl, trivial⟩ ⟨rfl, hf3.trans fz fun z hz e => by have : z = q := e; omega⟩
  rw [show decide (s.ctx < n) = false from decide_eq_false c2, if_neg (fun h => h.elim c1 c2)]
  have m1 := mul_bd (a := 2 * s.dim) (b := s.lay) (m := 128) (k := 8) (by omega) (by omega) (by omega) (by omega)
  have m2 := mul_bd (a := 2 * s.dim * s.lay) (b := n) (m := 1024) (k := 512) (by omega) (by omega) (by omega) (by omega)
  have m3 := mul_bd (a := 4 * s.dim) (b := s.dim) (m := 256) (k := 64) (by omega) (by omega) (by omega) (by omega)
  have m4 := mul_bd (a := 2 * s.dim) (b := n) (m := 128) (k := 512) (by omega) (by omega) (by omega) (by omega)
  have m5 := mul_bd (a := 3 * s.dim) (b := s.hid) (m := 192) (k := 256) (by omega) (by omega) (by omega) (by omega)
  have m6 := mul_bd (a := s.lay) (b := 4 * s.dim * s.dim + 2 * s.dim * n + 3 * s.dim * s.hid) (m := 8) (k := 131072) (by omega) (by omega) (by omega) (by omega)
  have m7 := mul_bd (a := s.voc) (b := s.dim) (m := 512) (k := 64) (by omega) (by omega) (by omega) (by omega)
  refine sA [] rfl ?_; refine ev_loadB rfl rfl tabOk rfl rfl ‹_› (by rfl) ?_; refine ev_arith rfl rfl rfl rfl rfl (by simp only [lowK, hiK]; omega) ?_; refine sA [] rfl ?_; refine ev_loadB rfl rfl tabOk rfl rfl ‹_› (by rfl) ?_; refine ev_arith rfl rfl rfl rfl rfl (by simp only [lowK, hiK]; omega) ?_; refine sA [] rfl ?_; refine ev_arith rfl rfl rfl rfl rfl (by simp only [lowK, hiK]; omega) ?_; refine sA [] rfl ?_; refine ev_loadB rfl rfl tabOk rfl rfl ‹_› (by rfl) ?_; refine sA [] rfl ?_; refine ev_loadB rfl rfl tabOk rfl rfl ‹_› (by rfl) ?_; refine ev_arith rfl rfl rfl rfl rfl (by simp only [lowK, hiK]; omega) ?_; refine sA [] rfl ?_; refine ev_loadB rfl rfl tabOk rfl rfl ‹_› (by rfl) ?_; refine ev_arith rfl rfl rfl rfl rfl (by simp only [lowK, hiK]; omega) ?_; refine sA [] rfl ?_; refine ev_loadB rfl rfl tabOk rfl rfl ‹_› (by rfl) ?_; refine ev_arith rfl rfl rfl rfl rfl (by simp only [lowK, hiK]; omega) ?_; refine sA [] rfl ?_; refine ev_arith rfl rfl rfl rfl rfl (by simp only [lowK, hiK]; omega) ?_; refine ev_arith rfl rfl rfl rfl rfl (by simp only [lowK, hiK]; omega) ?_; refine sA [] rfl ?_; refine ev_loadB rfl rfl tabOk rfl rfl ‹_› (by rfl) ?_; refine ev_arith rfl rfl rfl rfl rfl (by simp only [lowK, hiK]; omega) ?_; refine sA [] rfl ?_; refine ev_loadB rfl rfl tabOk rfl rfl ‹_› (by rfl) ?_; refine ev_arith rfl rfl rfl rfl rfl (by simp only [lowK, hiK]; omega) ?_; refine ev_arith rfl rfl rfl rfl rfl (by simp only [lowK, hiK]; omega) ?_; refine ev_arith rfl rfl rfl rfl rfl (by simp only [lowK, hiK]; omega) ?_; refine sA [] rfl ?_; refine ev_loadB rfl rfl tabOk rfl rfl ‹_› (by rfl) ?_; refine sA [] rfl ?_; refine ev_loadB rfl rfl tabOk rfl rfl ‹_› (by rfl) ?_; refine ev_arith rfl rfl rfl rfl rfl (by simp only [lowK, hiK]; omega) ?_
  refine ev_build rfl rfl (v := .agg ⟨costC (numS s, 2 * s.dim * s.lay * n, s.lay * (4 * s.dim * s.dim + 2 * s.dim * n + 3 * s.dim * s.hid), s.voc * s.dim, 0)⟩) rfl (fun w => by kernel_rfl) ?_
  skip
  refine ev_storeAgg tabOk rfl rfl rfl rfl rfl rfl kq3 rfl (fun wz kz fz => ?_)
  refine sA [] rfl ?_
  exact retG tabOk (.inr rfl) rfl [.agg ⟨costC (numS s, 2 * s.dim * s.lay * n, s.lay * (4 * s.dim * s.dim + 2 * s.dim * n + 3 * s.dim * s.hid), s.voc * s.dim, 0)⟩, i64 0] ⟨⟨_, rfl, .inl ⟨rfl, _, rfl, rfl, Cs.of_blk kz⟩⟩, rfl, trivial⟩ ⟨rfl, hf3.trans fz fun z hz e => by have : z = q := e; omega⟩
set_option maxHeartbeats 4000000 in
theorem refCosts (s : Shp) (n : Int) (w : World) : CallsF Tryd.prog 29 [shpV s, i64 n] w fun r w' => r = costV (costQ s n) ∧ Fr no w w' := by
  unfold costQ
  refine callsF Tryd.func29 rfl rfl (by decide) rfl ?_
  refine sA [] rfl ?_
  refine ev_box rfl rfl rfl fun p w1 hp kp f1 => ?_
  refine ev_alloc rfl rfl inf81 (fun q w2 hq kq f2 => ?_)
  have kp2 := kp.fr0 f2
  have hf2 := f1.tr f2
  have hpl := kp.lt
  clear kp
  refine sA [] rfl ?_; refine ev_loadAggB rfl rfl tabOk rfl rfl ‹_› (by rfl) ?_
  refine ev_call rfl rfl rfl (refChk s w2) ?_
  rintro r w3 ⟨rfl, f3⟩
  have kp3 := kp2.fr0 f3
  have kq3 := kq.fr0 f3
  have hf3 := hf2.tr f3
  have s1 := f1.size
  clear kp2 kq
  refine sD [] rfl ?_; refine sD [] rfl ?_
  by_cases o : okS s
  case neg =>
    rw [chk_n o, if_neg o]
    refine sA [] rfl ?_
    refine ev_build rfl rfl (v := .agg ⟨costC (0, 0, 0, 0, 160)⟩) rfl (fun w => by kernel_rfl) ?_
    skip
    refine ev_storeAgg tabOk rfl rfl rfl rfl rfl rfl kq3 rfl (fun wz kz fz => ?_)
    refine sA [] rfl ?_
    exact retG tabOk (.inr rfl) rfl [.agg ⟨costC (0, 0, 0, 0, 160)⟩, i64 160] ⟨⟨_, rfl, .inl ⟨rfl, _, rfl, rfl, Cs.of_blk kz⟩⟩, rfl, trivial⟩ ⟨rfl, hf3.trans fz fun z hz e => by have : z = q := e; omega⟩
  rw [chk_y o, if_pos o]
  refine sC [] rfl ?_; refine sC [] rfl ?_
  obtain ⟨⟨a1, a2⟩, ⟨b1, b2⟩, ⟨d1, d2⟩, k1, k2, k3, ⟨e1, e2⟩, g1, g2⟩ := o
  by_cases c1 : n < 0
  · rw [show decide (n < 0) = true from decide_eq_true c1, if_pos (.inl c1)]
    refine sA [] rfl ?_
    refine ev_build rfl rfl (v := .agg ⟨costC (0, 0, 0, 0, 1)⟩) rfl (fun w => by kernel_rfl) ?_
    skip
    refine ev_storeAgg tabOk rfl rfl rfl rfl rfl rfl kq3 rfl (fun wz kz fz => ?_)
    refine sA [] rfl ?_
    exact retG tabOk (.inr rfl) rfl [.agg ⟨costC (0, 0, 0, 0, 1)⟩, i64 1] ⟨⟨_, rfl, .inl ⟨rfl, _, rfl, rfl, Cs.of_blk kz⟩⟩, rfl, trivial⟩ ⟨rfl, hf3.trans fz fun z hz e => by have : z = q := e; omega⟩
  rw [show decide (n < 0) = false from decide_eq_false c1]
  refine sA [] rfl ?_; refine ev_loadB rfl rfl tabOk rfl rfl ‹_› (by rfl) ?_; refine sD [] rfl ?_; refine sD [] rfl ?_; refine sD [] rfl ?_
  by_cases c2 : s.ctx < n
  · rw [show decide (s.ctx < n) = true from decide_eq_true c2, if_pos (.inr c2)]
    refine sA [] rfl ?_
    refine ev_build rfl rfl (v := .agg ⟨costC (0, 0, 0, 0, 1)⟩) rfl (fun w => by kernel_rfl) ?_
    skip
    refine ev_storeAgg tabOk rfl rfl rfl rfl rfl rfl kq3 rfl (fun wz kz fz => ?_)
    refine sA [] rfl ?_
    exact retG tabOk (.inr rfl) rfl [.agg ⟨costC (0, 0, 0, 0, 1)⟩, i64 1] ⟨⟨_, rfl, .inl ⟨rfl, _, rfl, rfl, Cs.of_blk kz⟩⟩, rfl, trivial⟩ ⟨rfl, hf3.trans fz fun z hz e => by have : z = q := e; omega⟩
  rw [show decide (s.ctx < n) = false from decide_eq_false c2, if_neg (fun h => h.elim c1 c2)]
  refine sA [] rfl ?_; refine ev_loadAggB rfl rfl tabOk rfl rfl ‹_› (by rfl) ?_
  refine ev_call rfl rfl rfl (refNum s w3) ?_
  rintro r w4 ⟨rfl, f4⟩
  have kp4 := kp3.fr0 f4
  have kq4 := kq3.fr0 f4
  have hf4 := hf3.tr f4
  clear kp3 kq3
  have m1 := mul_bd (a := 2 * s.dim) (b := s.lay) (m := 128) (k := 8) (by omega) (by omega) (by omega) (by omega)
  have m2 := mul_bd (a := 2 * s.dim * s.lay) (b := n) (m := 1024) (k := 512) (by omega) (by omega) (by omega) (by omega)
  have m3 := mul_bd (a := 4 * s.dim) (b := s.dim) (m := 256) (k := 64) (by omega) (by omega) (by omega) (by omega)
  have m4 := mul_bd (a := 2 * s.dim) (b := n) (m := 128) (k := 512) (by omega) (by omega) (by omega) (by omega)
  have m5 := mul_bd (a := 3 * s.dim) (b := s.hid) (m := 192) (k := 256) (by omega) (by omega) (by omega) (by omega)
  have m6 := mul_bd (a := s.lay) (b := 4 * s.dim * s.dim + 2 * s.dim * n + 3 * s.dim * s.hid) (m := 8) (k := 131072) (by omega) (by omega) (by omega) (by omega)
  have m7 := mul_bd (a := s.voc) (b := s.dim) (m := 512) (k := 64) (by omega) (by omega) (by omega) (by omega)
  refine sA [] rfl ?_; refine ev_loadB rfl rfl tabOk rfl rfl ‹_› (by rfl) ?_; refine ev_arith rfl rfl rfl rfl rfl (by simp only [lowK, hiK]; omega) ?_; refine sA [] rfl ?_; refine ev_loadB rfl rfl tabOk rfl rfl ‹_› (by rfl) ?_; refine ev_arith rfl rfl rfl rfl rfl (by simp only [lowK, hiK]; omega) ?_; refine sA [] rfl ?_; refine ev_arith rfl rfl rfl rfl rfl (by simp only [lowK, hiK]; omega) ?_; refine sA [] rfl ?_; refine ev_loadB rfl rfl tabOk rfl rfl ‹_› (by rfl) ?_; refine sA [] rfl ?_; refine ev_loadB rfl rfl tabOk rfl rfl ‹_› (by rfl) ?_; refine ev_arith rfl rfl rfl rfl rfl (by simp only [lowK, hiK]; omega) ?_; refine sA [] rfl ?_; refine ev_loadB rfl rfl tabOk rfl rfl ‹_› (by rfl) ?_; refine ev_arith rfl rfl rfl rfl rfl (by simp only [lowK, hiK]; omega) ?_; refine sA [] rfl ?_; refine ev_loadB rfl rfl tabOk rfl rfl ‹_› (by rfl) ?_; refine ev_arith rfl rfl rfl rfl rfl (by simp only [lowK, hiK]; omega) ?_; refine sA [] rfl ?_; refine ev_arith rfl rfl rfl rfl rfl (by simp only [lowK, hiK]; omega) ?_; refine ev_arith rfl rfl rfl rfl rfl (by simp only [lowK, hiK]; omega) ?_; refine sA [] rfl ?_; refine ev_loadB rfl rfl tabOk rfl rfl ‹_› (by rfl) ?_; refine ev_arith rfl rfl rfl rfl rfl (by simp only [lowK, hiK]; omega) ?_; refine sA [] rfl ?_; refine ev_loadB rfl rfl tabOk rfl rfl ‹_› (by rfl) ?_; refine ev_arith rfl rfl rfl rfl rfl (by simp only [lowK, hiK]; omega) ?_; refine ev_arith rfl rfl rfl rfl rfl (by simp only [lowK, hiK]; omega) ?_; refine ev_arith rfl rfl rfl rfl rfl (by simp only [lowK, hiK]; omega) ?_; refine sA [] rfl ?_; refine ev_loadB rfl rfl tabOk rfl rfl ‹_› (by rfl) ?_; refine sA [] rfl ?_; refine ev_loadB rfl rfl tabOk rfl rfl ‹_› (by rfl) ?_; refine ev_arith rfl rfl rfl rfl rfl (by simp only [lowK, hiK]; omega) ?_
  refine ev_build rfl rfl (v := .agg ⟨costC (numS s, 2 * s.dim * s.lay * n, s.lay * (4 * s.dim * s.dim + 2 * s.dim * n + 3 * s.dim * s.hid), s.voc * s.dim, 0)⟩) rfl (fun w => by kernel_rfl) ?_
  skip
  refine ev_storeAgg tabOk rfl rfl rfl rfl rfl rfl kq4 rfl (fun wz kz fz => ?_)
  refine sA [] rfl ?_
  exact retG tabOk (.inr rfl) rfl [.agg ⟨costC (numS s, 2 * s.dim * s.lay * n, s.lay * (4 * s.dim * s.dim + 2 * s.dim * n + 3 * s.dim * s.hid), s.voc * s.dim, 0)⟩, i64 0] ⟨⟨_, rfl, .inl ⟨rfl, _, rfl, rfl, Cs.of_blk kz⟩⟩, rfl, trivial⟩ ⟨rfl, hf4.trans fz fun z hz e => by have : z = q := e; omega⟩
end Go.Wk.YtfgllkflnkolhaaDoor
