/-
  Chapter 16: Costs and Preset; the laws ShapeChecks and ShapeCosts.
-/
import Derived.Test.YtfgllkflnkolhaaDoorShR
set_option linter.unusedVariables false
namespace Go.Wk.YtfgllkflnkolhaaDoor
open Go Go.Wk Go.Proofs

set_option maxHeartbeats 4000000 in
theorem lawChecks (s : Shp) (w : World) (hT : QT w) : CallsF Tryd.prog 3 [shpV s] w fun r w' => r = .bool true ∧ Fr no w w' := by
  refine callsF Tryd.func3 rfl rfl (by decide) rfl ?_
  refine sA [] rfl ?_
  refine ev_box rfl rfl rfl fun p w1 hp kp f1 => ?_
  refine sA [] rfl ?_
  refine ev_call rfl rfl rfl (lAwake w1 (hT.fr0 f1)) ?_
  rintro r w2 ⟨rfl, f2⟩
  have kp2 := kp.fr0 f2
  have hf2 := f1.tr f2
  refine sA [] rfl ?_; refine ev_loadAggB rfl rfl tabOk rfl rfl ‹_› (by rfl) ?_
  refine ev_call rfl rfl rfl (wNum s w2) ?_
  rintro r w3 ⟨rfl, f3⟩
  have kp3 := kp2.fr0 f3
  have hf3 := hf2.tr f3
  clear kp kp2
  refine sA [] rfl ?_; refine ev_loadAggB rfl rfl tabOk rfl rfl ‹_› (by rfl) ?_
  refine ev_call rfl rfl rfl (lPlain s w3) ?_
  rintro r w4 ⟨rfl, f4⟩
  have kp4 := kp3.fr0 f4
  have hf4 := hf3.tr f4
  skip
  refine ev_call rfl rfl rfl (refNum s w4) ?_
  rintro r w5 ⟨rfl, f5⟩
  have kp5 := kp4.fr0 f5
  have hf5 := hf4.tr f5
  clear kp3 kp4
  refine sA [] rfl ?_
  refine ev_draw mixed (by kernel_rfl) ?_
  refine q_loadAggB rfl rfl tabOk rfl rfl ‹_› (by rfl) ?_
  skip
  refine q_call rfl rfl rfl (fun w' hw' => (wChk s w').mono fun u w'' z => ⟨z.1, hw'.tr z.2⟩) ?_
  refine q_loadAggB rfl rfl tabOk rfl rfl ‹_› (by rfl) ?_
  refine q_call rfl rfl rfl (fun w' hw' => (lPlain s w').mono fun u w'' z => ⟨z.1, hw'.tr z.2⟩) ?_
  refine q_call rfl rfl rfl (fun w' hw' => (refChk s w').mono fun u w'' z => ⟨z.1, hw'.tr z.2⟩) ?_
  refine qD rfl ?_; refine qD rfl ?_
  rw [show decide (chkS s = chkS s) = true from decide_eq_true rfl]
  refine q_loadAggB rfl rfl tabOk rfl rfl ‹_› (by rfl) ?_
  skip
  refine q_call rfl rfl rfl (fun w' hw' => (wHalf s w').mono fun u w'' z => ⟨z.1, hw'.tr z.2⟩) ?_
  refine q_loadAggB rfl rfl tabOk rfl rfl ‹_› (by rfl) ?_
  refine q_call rfl rfl rfl (fun w' hw' => (lPlain s w').mono fun u w'' z => ⟨z.1, hw'.tr z.2⟩) ?_
  refine q_call rfl rfl rfl (fun w' hw' => (refHalf s w').mono fun u w'' z => ⟨z.1, hw'.tr z.2⟩) ?_
  refine qD rfl ?_; refine qD rfl ?_; refine qD rfl ?_
  rw [show decide (halfS s = halfS s) = true from decide_eq_true rfl]
  refine qC rfl ?_; refine qD rfl ?_
  rw [show decide (numS s = numS s) = true from decide_eq_true rfl]
  refine qA rfl ?_
  rw [show decide (chkS s = chkS s) = true from decide_eq_true rfl]
  skip
  refine q_end fun w6 f6 => ?_
  refine sA [] rfl ?_
  exact ret1 (.inr rfl) rfl rfl ⟨rfl, hf5.tr f6⟩
/-- what places cost -/
def costQ (s : Shp) (n : Int) : Int × Int × Int × Int × Int :=
  if okS s then if n < 0 ∨ s.ctx < n then (0, 0, 0, 0, 1) else (numS s, 2 * s.dim * s.lay * n, s.lay * (4 * s.dim * s.dim + 2 * s.dim * n + 3 * s.dim * s.hid), s.voc * s.dim, 0) else (0, 0, 0, 0, 160)
abbrev costC (c : Int × Int × Int × Int × Int) : List Value := [i64 c.1, i64 c.2.1, i64 c.2.2.1, i64 c.2.2.2.1]
abbrev costV (c : Int × Int × Int × Int × Int) : Value := .tuple #[.agg ⟨costC c⟩, i64 c.2.2.2.2]
set_option maxHeartbeats 4000000 in
theorem wCosts (s : Shp) (n : Int) (w : World) : CallsF Tryd.prog 28 [shpV s, i64 n] w fun r w' => r = costV (costQ s n) ∧ Fr no w w' := by
  unfold costQ
  refine callsF Tryd.func28 rfl rfl (by decide) rfl ?_
  refine sA [] rfl ?_
  refine ev_box rfl rfl rfl fun p w1 hp kp f1 => ?_
  refine ev_alloc rfl rfl inf78 (fun q w2 hq kq f2 => ?_)
  have kp2 := kp.fr0 f2
  have hf2 := f1.tr f2
  have hpl := kp.lt
  clear kp
  refine sA [] rfl ?_; refine ev_loadAggB rfl rfl tabOk rfl rfl ‹_› (by rfl) ?_
  refine ev_call rfl rfl rfl (wNum s w2) ?_
  rintro r w3 ⟨rfl, f3⟩
  have kp3 := kp2.fr0 f3
  have kq3 := kq.fr0 f3
  have hf3 := hf2.tr f3
  have s1 := f1.size
  clear kp2 kq
  refine sC [] rfl ?_; refine sC [] rfl ?_; refine sC [] rfl ?_; refine sD [] rfl ?_; refine sD [] rfl ?_
  by_cases o : okS s
  case neg =>
    rw [chk_n o, if_neg o]
    refine sA [] rfl ?_
    refine ev_build rfl rfl (v := .agg ⟨costC (0, 0, 0, 0, 160)⟩) rfl (fun w => by kernel_rfl) ?_
    refine sA [] rfl ?_
    refine ev_storeAgg tabOk rfl rfl rfl rfl rfl rfl kq3 rfl (fun wz kz fz => ?_)
    refine sA [] rfl ?_
    exact retG tabOk (.inr rfl) rfl [.agg ⟨costC (0, 0, 0, 0, 160)⟩, i64 160] ⟨⟨_, rfl, .inl ⟨rfl, _, rfl, rfl, Cs.of_blk kz⟩⟩, rfl, trivial⟩ ⟨rfl, hf3.trans fz fun z hz e => by have : z = q := e; omega⟩
  rw [chk_y o, if_pos o]
  refine sC [] rfl ?_; refine sD [] rfl ?_; refine sD [] rfl ?_
  obtain ⟨⟨a1, a2⟩, ⟨b1, b2⟩, ⟨d1, d2⟩, k1, k2, k3, ⟨e1, e2⟩, g1, g2⟩ := o
  by_cases c1 : n < 0
  · rw [show decide (n < 0) = true from decide_eq_true c1, if_pos (.inl c1)]
    refine sA [] rfl ?_
    refine ev_build rfl rfl (v := .agg ⟨costC (0, 0, 0, 0, 1)⟩) rfl (fun w => by kernel_rfl) ?_
    skip
    refine ev_storeAgg tabOk rfl rfl rfl rfl rfl rfl kq3 rfl (fun wz kz fz => ?_)
    refine sA [] rfl ?_
    exact retG tabOk (.inr rfl) rfl [.agg ⟨costC (0, 0, 0, 0, 1)⟩, i64 1] ⟨⟨_, rfl, .inl ⟨rfl, _, rfl, rfl, Cs.of_blk kz⟩⟩, rfl, trivial⟩ ⟨rfl, hf3.trans fz fun z hz e => by have : z = q := e; omega⟩
  rw [show decide (n < 0) = false from decide_eq_false c1]
  refine sA [] rfl ?_; refine ev_loadB rfl rfl tabOk rfl rfl ‹_› (by rfl) ?_; refine sC [] rfl ?_
  by_cases c2 : s.ctx < n
  · rw [show decide (s.ctx < n) = true from decide_eq_true c2, if_pos (.inr c2)]
    refine sA [] rfl ?_
    refine ev_build rfl rfl (v := .agg ⟨costC (0, 0, 0, 0, 1)⟩) rfl (fun w => by kernel_rfl) ?_
    skip
    refine ev_storeAgg tabOk rfl rfl rfl rfl rfl rfl kq3 rfl (fun wz kz fz => ?_)
    refine sA [] rfl ?_
    exact retG tabOk (.inr rfl) rfl [.agg ⟨costC (0, 0, 0, 0, 1)⟩, i64 1] ⟨⟨_, rfl, .inl ⟨rfl, _, rfl, rfl, Cs.of_blk kz⟩⟩, rfl, trivial⟩ ⟨rfl, hf3.trans fz fun z hz e => by have : z = q := e; omega⟩
  rw [show decide (s.ctx < n) = false from decide_eq_false c2, if_neg (fun h => h.elim c1 c2)]
  have m1 := mul_bd (a := 2 * s.dim) (b := s.lay) (m := 128) (k := 8) (by omega) (by omega) (by omega) (by omega)
  have m2 := mul_bd (a := 2 * s.dim * s.lay) (b := n) (m := 1024) (k := 512) (by omega) (by omega) (by omega) (by omega)
  have m3 := mul_bd (a := 4 * s.dim) (b := s.dim) (m := 256) (k := 64) (by omega) (by omega) (by omega) (by omega)
  have m4 := mul_bd (a := 2 * s.dim) (b := n) (m := 128) (k := 512) (by omega) (by omega) (by omega) (by omega)
  have m5 := mul_bd (a := 3 * s.dim) (b := s.hid) (m := 192) (k := 256) (by omega) (by omega) (by omega) (by omega)
  have m6 := mul_bd (a := s.lay) (b := 4 * s.dim * s.dim + 2 * s.dim * n + 3 * s.dim * s.hid) (m := 8) (k := 131072) (by omega) (by omega) (by omega) (by omega)
  have m7 := mul_bd (a := s.voc) (b := s.dim) (m := 512) (k := 64) (by omega) (by omega) (by omega) (by omega)
  refine sA [] rfl ?_; refine ev_loadB rfl rfl tabOk rfl rfl ‹_› (by rfl) ?_; refine ev_arith rfl rfl rfl rfl rfl (by simp only [lowK, hiK]; omega) ?_; refine sA [] rfl ?_; refine ev_loadB rfl rfl tabOk rfl rfl ‹_› (by rfl) ?_; refine ev_arith rfl rfl rfl rfl rfl (by simp only [lowK, hiK]; omega) ?_; refine sA [] rfl ?_; refine ev_arith rfl rfl rfl rfl rfl (by simp only [lowK, hiK]; omega) ?_; refine sA [] rfl ?_; refine ev_loadB rfl rfl tabOk rfl rfl ‹_› (by rfl) ?_; refine sA [] rfl ?_; refine ev_loadB rfl rfl tabOk rfl rfl ‹_› (by rfl) ?_; refine ev_arith rfl rfl rfl rfl rfl (by simp only [lowK, hiK]; omega) ?_; refine sA [] rfl ?_; refine ev_loadB rfl rfl tabOk rfl rfl ‹_› (by rfl) ?_; refine ev_arith rfl rfl rfl rfl rfl (by simp only [lowK, hiK]; omega) ?_; refine sA [] rfl ?_; refine ev_loadB rfl rfl tabOk rfl rfl ‹_› (by rfl) ?_; refine ev_arith rfl rfl rfl rfl rfl (by simp only [lowK, hiK]; omega) ?_; refine sA [] rfl ?_; refine ev_arith rfl rfl rfl rfl rfl (by simp only [lowK, hiK]; omega) ?_; refine ev_arith rfl rfl rfl rfl rfl (by simp only [lowK, hiK]; omega) ?_; refine sA [] rfl ?_; refine ev_loadB rfl rfl tabOk rfl rfl ‹_› (by rfl) ?_; refine ev_arith rfl rfl rfl rfl rfl (by simp only [lowK, hiK]; omega) ?_; refine sA [] rfl ?_; refine ev_loadB rfl rfl tabOk rfl rfl ‹_› (by rfl) ?_; refine ev_arith rfl rfl rfl rfl rfl (by simp only [lowK, hiK]; omega) ?_; refine ev_arith rfl rfl rfl rfl rfl (by simp only [lowK, hiK]; omega) ?_; refine ev_arith rfl rfl rfl rfl rfl (by simp only [lowK, hiK]; omega) ?_; refine sA [] rfl ?_; refine ev_loadB rfl rfl tabOk rfl rfl ‹_› (by rfl) ?_; refine sA [] rfl ?_; refine ev_loadB rfl rfl tabOk rfl rfl ‹_› (by rfl) ?_; refine ev_arith rfl rfl rfl rfl rfl (by simp only [lowK, hiK]; omega) ?_
  refine ev_build rfl rfl (v := .agg ⟨costC (numS s, 2 * s.dim * s.lay * n, s.lay * (4 * s.dim * s.dim + 2 * s.dim * n + 3 * s.dim * s.hid), s.voc * s.dim, 0)⟩) rfl (fun w => by kernel_rfl) ?_
  skip
  refine ev_storeAgg tabOk rfl rfl rfl rfl rfl rfl kq3 rfl (fun wz kz fz => ?_)
  refine sA [] rfl ?_
  exact retG tabOk (.inr rfl) rfl [.agg ⟨costC (numS s, 2 * s.dim * s.lay * n, s.lay * (4 * s.dim * s.dim + 2 * s.dim * n + 3 * s.dim * s.hid), s.voc * s.dim, 0)⟩, i64 0] ⟨⟨_, rfl, .inl ⟨rfl, _, rfl, rfl, Cs.of_blk kz⟩⟩, rfl, trivial⟩ ⟨rfl, hf3.trans fz fun z hz e => by have : z = q := e; omega⟩
set_option maxHeartbeats 4000000 in
theorem refCosts (s : Shp) (n : Int) (w : World) : CallsF Tryd.prog 29 [shpV s, i64 n] w fun r w' => r = costV (costQ s n) ∧ Fr no w w' := by
  unfold costQ
  refine callsF Tryd.func29 rfl rfl (by decide) rfl ?_
  refine sA [] rfl ?_
  refine ev_box rfl rfl rfl fun p w1 hp kp f1 => ?_
  refine ev_alloc rfl rfl inf81 (fun q w2 hq kq f2 => ?_)
  have kp2 := kp.fr0 f2
  have hf2 := f1.tr f2
  have hpl := kp.lt
  clear kp
  refine sA [] rfl ?_; refine ev_loadAggB rfl rfl tabOk rfl rfl ‹_› (by rfl) ?_
  refine ev_call rfl rfl rfl (refChk s w2) ?_
  rintro r w3 ⟨rfl, f3⟩
  have kp3 := kp2.fr0 f3
  have kq3 := kq.fr0 f3
  have hf3 := hf2.tr f3
  have s1 := f1.size
  clear kp2 kq
  refine sD [] rfl ?_; refine sD [] rfl ?_
  by_cases o : okS s
  case neg =>
    rw [chk_n o, if_neg o]
    refine sA [] rfl ?_
    refine ev_build rfl rfl (v := .agg ⟨costC (0, 0, 0, 0, 160)⟩) rfl (fun w => by kernel_rfl) ?_
    skip
    refine ev_storeAgg tabOk rfl rfl rfl rfl rfl rfl kq3 rfl (fun wz kz fz => ?_)
    refine sA [] rfl ?_
    exact retG tabOk (.inr rfl) rfl [.agg ⟨costC (0, 0, 0, 0, 160)⟩, i64 160] ⟨⟨_, rfl, .inl ⟨rfl, _, rfl, rfl, Cs.of_blk kz⟩⟩, rfl, trivial⟩ ⟨rfl, hf3.trans fz fun z hz e => by have : z = q := e; omega⟩
  rw [chk_y o, if_pos o]
  refine sC [] rfl ?_; refine sC [] rfl ?_
  obtain ⟨⟨a1, a2⟩, ⟨b1, b2⟩, ⟨d1, d2⟩, k1, k2, k3, ⟨e1, e2⟩, g1, g2⟩ := o
  by_cases c1 : n < 0
  · rw [show decide (n < 0) = true from decide_eq_true c1, if_pos (.inl c1)]
    refine sA [] rfl ?_
    refine ev_build rfl rfl (v := .agg ⟨costC (0, 0, 0, 0, 1)⟩) rfl (fun w => by kernel_rfl) ?_
    skip
    refine ev_storeAgg tabOk rfl rfl rfl rfl rfl rfl kq3 rfl (fun wz kz fz => ?_)
    refine sA [] rfl ?_
    exact retG tabOk (.inr rfl) rfl [.agg ⟨costC (0, 0, 0, 0, 1)⟩, i64 1] ⟨⟨_, rfl, .inl ⟨rfl, _, rfl, rfl, Cs.of_blk kz⟩⟩, rfl, trivial⟩ ⟨rfl, hf3.trans fz fun z hz e => by have : z = q := e; omega⟩
  rw [show decide (n < 0) = false from decide_eq_false c1]
  refine sA [] rfl ?_; refine ev_loadB rfl rfl tabOk rfl rfl ‹_› (by rfl) ?_; refine sD [] rfl ?_; refine sD [] rfl ?_; refine sD [] rfl ?_
  by_cases c2 : s.ctx < n
  · rw [show decide (s.ctx < n) = true from decide_eq_true c2, if_pos (.inr c2)]
    refine sA [] rfl ?_
    refine ev_build rfl rfl (v := .agg ⟨costC (0, 0, 0, 0, 1)⟩) rfl (fun w => by kernel_rfl) ?_
    skip
    refine ev_storeAgg tabOk rfl rfl rfl rfl rfl rfl kq3 rfl (fun wz kz fz => ?_)
    refine sA [] rfl ?_
    exact retG tabOk (.inr rfl) rfl [.agg ⟨costC (0, 0, 0, 0, 1)⟩, i64 1] ⟨⟨_, rfl, .inl ⟨rfl, _, rfl, rfl, Cs.of_blk kz⟩⟩, rfl, trivial⟩ ⟨rfl, hf3.trans fz fun z hz e => by have : z = q := e; omega⟩
  rw [show decide (s.ctx < n) = false from decide_eq_false c2, if_neg (fun h => h.elim c1 c2)]
  refine sA [] rfl ?_; refine ev_loadAggB rfl rfl tabOk rfl rfl ‹_› (by rfl) ?_
  refine ev_call rfl rfl rfl (refNum s w3) ?_
  rintro r w4 ⟨rfl, f4⟩
  have kp4 := kp3.fr0 f4
  have kq4 := kq3.fr0 f4
  have hf4 := hf3.tr f4
  clear kp3 kq3
  have m1 := mul_bd (a := 2 * s.dim) (b := s.lay) (m := 128) (k := 8) (by omega) (by omega) (by omega) (by omega)
  have m2 := mul_bd (a := 2 * s.dim * s.lay) (b := n) (m := 1024) (k := 512) (by omega) (by omega) (by omega) (by omega)
  have m3 := mul_bd (a := 4 * s.dim) (b := s.dim) (m := 256) (k := 64) (by omega) (by omega) (by omega) (by omega)
  have m4 := mul_bd (a := 2 * s.dim) (b := n) (m := 128) (k := 512) (by omega) (by omega) (by omega) (by omega)
  have m5 := mul_bd (a := 3 * s.dim) (b := s.hid) (m := 192) (k := 256) (by omega) (by omega) (by omega) (by omega)
  have m6 := mul_bd (a := s.lay) (b := 4 * s.dim * s.dim + 2 * s.dim * n + 3 * s.dim * s.hid) (m := 8) (k := 131072) (by omega) (by omega) (by omega) (by omega)
  have m7 := mul_bd (a := s.voc) (b := s.dim) (m := 512) (k := 64) (by omega) (by omega) (by omega) (by omega)
  refine sA [] rfl ?_; refine ev_loadB rfl rfl tabOk rfl rfl ‹_› (by rfl) ?_; refine ev_arith rfl rfl rfl rfl rfl (by simp only [lowK, hiK]; omega) ?_; refine sA [] rfl ?_; refine ev_loadB rfl rfl tabOk rfl rfl ‹_› (by rfl) ?_; refine ev_arith rfl rfl rfl rfl rfl (by simp only [lowK, hiK]; omega) ?_; refine sA [] rfl ?_; refine ev_arith rfl rfl rfl rfl rfl (by simp only [lowK, hiK]; omega) ?_; refine sA [] rfl ?_; refine ev_loadB rfl rfl tabOk rfl rfl ‹_› (by rfl) ?_; refine sA [] rfl ?_; refine ev_loadB rfl rfl tabOk rfl rfl ‹_› (by rfl) ?_; refine ev_arith rfl rfl rfl rfl rfl (by simp only [lowK, hiK]; omega) ?_; refine sA [] rfl ?_; refine ev_loadB rfl rfl tabOk rfl rfl ‹_› (by rfl) ?_; refine ev_arith rfl rfl rfl rfl rfl (by simp only [lowK, hiK]; omega) ?_; refine sA [] rfl ?_; refine ev_loadB rfl rfl tabOk rfl rfl ‹_› (by rfl) ?_; refine ev_arith rfl rfl rfl rfl rfl (by simp only [lowK, hiK]; omega) ?_; refine sA [] rfl ?_; refine ev_arith rfl rfl rfl rfl rfl (by simp only [lowK, hiK]; omega) ?_; refine ev_arith rfl rfl rfl rfl rfl (by simp only [lowK, hiK]; omega) ?_; refine sA [] rfl ?_; refine ev_loadB rfl rfl tabOk rfl rfl ‹_› (by rfl) ?_; refine ev_arith rfl rfl rfl rfl rfl (by simp only [lowK, hiK]; omega) ?_; refine sA [] rfl ?_; refine ev_loadB rfl rfl tabOk rfl rfl ‹_› (by rfl) ?_; refine ev_arith rfl rfl rfl rfl rfl (by simp only [lowK, hiK]; omega) ?_; refine ev_arith rfl rfl rfl rfl rfl (by simp only [lowK, hiK]; omega) ?_; refine ev_arith rfl rfl rfl rfl rfl (by simp only [lowK, hiK]; omega) ?_; refine sA [] rfl ?_; refine ev_loadB rfl rfl tabOk rfl rfl ‹_› (by rfl) ?_; refine sA [] rfl ?_; refine ev_loadB rfl rfl tabOk rfl rfl ‹_› (by rfl) ?_; refine ev_arith rfl rfl rfl rfl rfl (by simp only [lowK, hiK]; omega) ?_
  refine ev_build rfl rfl (v := .agg ⟨costC (numS s, 2 * s.dim * s.lay * n, s.lay * (4 * s.dim * s.dim + 2 * s.dim * n + 3 * s.dim * s.hid), s.voc * s.dim, 0)⟩) rfl (fun w => by kernel_rfl) ?_
  skip
  refine ev_storeAgg tabOk rfl rfl rfl rfl rfl rfl kq4 rfl (fun wz kz fz => ?_)
  refine sA [] rfl ?_
  exact retG tabOk (.inr rfl) rfl [.agg ⟨costC (numS s, 2 * s.dim * s.lay * n, s.lay * (4 * s.dim * s.dim + 2 * s.dim * n + 3 * s.dim * s.hid), s.voc * s.dim, 0)⟩, i64 0] ⟨⟨_, rfl, .inl ⟨rfl, _, rfl, rfl, Cs.of_blk kz⟩⟩, rfl, trivial⟩ ⟨rfl, hf4.trans fz fun z hz e => by have : z = q := e; omega⟩
end Go.Wk.YtfgllkflnkolhaaDoor
namespace Go.Wk.YtfgllkflnkolhaaDoor
open Go Go.Wk Go.Proofs

theorem shpR_neq (x y : Shp) (w : World) : (binOp .neq 30 (shpV x) (shpV y)).run Tryd.prog w = .ok (.bool (!decide (x = y))) w := by
  obtain ⟨a, b, c, d, e, f⟩ := x
  obtain ⟨a', b', c', d', e', f'⟩ := y
  have u3 := Tryd.underlying3
  have a3 := Tryd.isAgg3
  have z3 := Tryd.sizeOf3
  have hS : Tryd.prog.underlying 30 = some (.struct (Tryd.prog.fieldsOf 30)) := by kernel_rfl
  rw [run_neq_struct, show (10000 : Nat) = 9999 + 1 from rfl, run_equalIn_agg w 9999 30 _ _ hS (by kernel_rfl)]
  simp only [Program.fieldsOf, Tryd.underlying30]
  go_simp
  by_cases h1 : a = a'
  case neg => simp [h1]
  by_cases h2 : b = b'
  case neg => simp [h1, h2]
  by_cases h3 : c = c'
  case neg => simp [h1, h2, h3]
  by_cases h4 : d = d'
  case neg => simp [h1, h2, h3, h4]
  by_cases h5 : e = e'
  case neg => simp [h1, h2, h3, h4, h5]
  by_cases h6 : f = f' <;> simp [h1, h2, h3, h4, h5, h6]
theorem y_shpR_neq {C : World → Prop} {n : Nat} {env : Env} {d : Option Nat} {ty t' : TypeId} {ps : String} {af : Array Edge} {g : Option (Nat × Bool)} {x y : Operand} {m m' : Shp}
    (hx : ev env x = some (shpV m)) (hy : ev env y = some (shpV m')) : Yv Tryd.prog n env C ⟨d, .binOp .neq 30 x y t', ty, ps, af, g⟩ (.bool (!decide (m = m'))) := fun a hA w _ => by
  simp only [execOp, hA.ev hx, hA.ev hy]
  refine run_bind (a := Value.bool (!decide (m = m'))) (w' := w) ?_
  refine (run_bind (a := ()) (w' := w) (run_eqGuard_agg _ _ _ _ _ _ _ (by kernel_rfl))).trans ?_
  exact shpR_neq m m' w
theorem shpR_eql (x y : Shp) (w : World) : (binOp .eql 30 (shpV x) (shpV y)).run Tryd.prog w = .ok (.bool (decide (x = y))) w := by
  obtain ⟨a, b, c, d, e, f⟩ := x
  obtain ⟨a', b', c', d', e', f'⟩ := y
  have u3 := Tryd.underlying3
  have a3 := Tryd.isAgg3
  have z3 := Tryd.sizeOf3
  have hS : Tryd.prog.underlying 30 = some (.struct (Tryd.prog.fieldsOf 30)) := by kernel_rfl
  rw [run_eql_struct, show (10000 : Nat) = 9999 + 1 from rfl, run_equalIn_agg w 9999 30 _ _ hS (by kernel_rfl)]
  simp only [Program.fieldsOf, Tryd.underlying30]
  go_simp
  by_cases h1 : a = a'
  case neg => simp [h1]
  by_cases h2 : b = b'
  case neg => simp [h1, h2]
  by_cases h3 : c = c'
  case neg => simp [h1, h2, h3]
  by_cases h4 : d = d'
  case neg => simp [h1, h2, h3, h4]
  by_cases h5 : e = e'
  case neg => simp [h1, h2, h3, h4, h5]
  by_cases h6 : f = f' <;> simp [h1, h2, h3, h4, h5, h6]
theorem y_shpR_eql {C : World → Prop} {n : Nat} {env : Env} {d : Option Nat} {ty t' : TypeId} {ps : String} {af : Array Edge} {g : Option (Nat × Bool)} {x y : Operand} {m m' : Shp}
    (hx : ev env x = some (shpV m)) (hy : ev env y = some (shpV m')) : Yv Tryd.prog n env C ⟨d, .binOp .eql 30 x y t', ty, ps, af, g⟩ (.bool (decide (m = m'))) := fun a hA w _ => by
  simp only [execOp, hA.ev hx, hA.ev hy]
  refine run_bind (a := Value.bool (decide (m = m'))) (w' := w) ?_
  refine (run_bind (a := ()) (w' := w) (run_eqGuard_agg _ _ _ _ _ _ _ (by kernel_rfl))).trans ?_
  exact shpR_eql m m' w
theorem shpA_neq (x y : Shp) (w : World) : (binOp .neq 23 (shpV x) (shpV y)).run Tryd.prog w = .ok (.bool (!decide (x = y))) w := by
  obtain ⟨a, b, c, d, e, f⟩ := x
  obtain ⟨a', b', c', d', e', f'⟩ := y
  have u3 := Tryd.underlying3
  have a3 := Tryd.isAgg3
  have z3 := Tryd.sizeOf3
  have hS : Tryd.prog.underlying 23 = some (.struct (Tryd.prog.fieldsOf 23)) := by kernel_rfl
  rw [run_neq_struct, show (10000 : Nat) = 9999 + 1 from rfl, run_equalIn_agg w 9999 23 _ _ hS (by kernel_rfl)]
  simp only [Program.fieldsOf, Tryd.underlying23]
  go_simp
  by_cases h1 : a = a'
  case neg => simp [h1]
  by_cases h2 : b = b'
  case neg => simp [h1, h2]
  by_cases h3 : c = c'
  case neg => simp [h1, h2, h3]
  by_cases h4 : d = d'
  case neg => simp [h1, h2, h3, h4]
  by_cases h5 : e = e'
  case neg => simp [h1, h2, h3, h4, h5]
  by_cases h6 : f = f' <;> simp [h1, h2, h3, h4, h5, h6]
theorem y_shpA_neq {C : World → Prop} {n : Nat} {env : Env} {d : Option Nat} {ty t' : TypeId} {ps : String} {af : Array Edge} {g : Option (Nat × Bool)} {x y : Operand} {m m' : Shp}
    (hx : ev env x = some (shpV m)) (hy : ev env y = some (shpV m')) : Yv Tryd.prog n env C ⟨d, .binOp .neq 23 x y t', ty, ps, af, g⟩ (.bool (!decide (m = m'))) := fun a hA w _ => by
  simp only [execOp, hA.ev hx, hA.ev hy]
  refine run_bind (a := Value.bool (!decide (m = m'))) (w' := w) ?_
  refine (run_bind (a := ()) (w' := w) (run_eqGuard_agg _ _ _ _ _ _ _ (by kernel_rfl))).trans ?_
  exact shpA_neq m m' w
theorem shpA_eql (x y : Shp) (w : World) : (binOp .eql 23 (shpV x) (shpV y)).run Tryd.prog w = .ok (.bool (decide (x = y))) w := by
  obtain ⟨a, b, c, d, e, f⟩ := x
  obtain ⟨a', b', c', d', e', f'⟩ := y
  have u3 := Tryd.underlying3
  have a3 := Tryd.isAgg3
  have z3 := Tryd.sizeOf3
  have hS : Tryd.prog.underlying 23 = some (.struct (Tryd.prog.fieldsOf 23)) := by kernel_rfl
  rw [run_eql_struct, show (10000 : Nat) = 9999 + 1 from rfl, run_equalIn_agg w 9999 23 _ _ hS (by kernel_rfl)]
  simp only [Program.fieldsOf, Tryd.underlying23]
  go_simp
  by_cases h1 : a = a'
  case neg => simp [h1]
  by_cases h2 : b = b'
  case neg => simp [h1, h2]
  by_cases h3 : c = c'
  case neg => simp [h1, h2, h3]
  by_cases h4 : d = d'
  case neg => simp [h1, h2, h3, h4]
  by_cases h5 : e = e'
  case neg => simp [h1, h2, h3, h4, h5]
  by_cases h6 : f = f' <;> simp [h1, h2, h3, h4, h5, h6]
theorem y_shpA_eql {C : World → Prop} {n : Nat} {env : Env} {d : Option Nat} {ty t' : TypeId} {ps : String} {af : Array Edge} {g : Option (Nat × Bool)} {x y : Operand} {m m' : Shp}
    (hx : ev env x = some (shpV m)) (hy : ev env y = some (shpV m')) : Yv Tryd.prog n env C ⟨d, .binOp .eql 23 x y t', ty, ps, af, g⟩ (.bool (decide (m = m'))) := fun a hA w _ => by
  simp only [execOp, hA.ev hx, hA.ev hy]
  refine run_bind (a := Value.bool (decide (m = m'))) (w' := w) ?_
  refine (run_bind (a := ()) (w' := w) (run_eqGuard_agg _ _ _ _ _ _ _ (by kernel_rfl))).trans ?_
  exact shpA_eql m m' w
theorem where_neq (x y : Int × Int) (w : World) : (binOp .neq 63 (.agg ⟨[i64 x.1, i64 x.2]⟩) (.agg ⟨[i64 y.1, i64 y.2]⟩)).run Tryd.prog w = .ok (.bool (!decide (x = y))) w := by
  obtain ⟨a, b⟩ := x
  obtain ⟨a', b'⟩ := y
  have u3 := Tryd.underlying3
  have a3 := Tryd.isAgg3
  have z3 := Tryd.sizeOf3
  have hS : Tryd.prog.underlying 63 = some (.struct (Tryd.prog.fieldsOf 63)) := by kernel_rfl
  rw [run_neq_struct, show (10000 : Nat) = 9999 + 1 from rfl, run_equalIn_agg w 9999 63 _ _ hS (by kernel_rfl)]
  simp only [Program.fieldsOf, Tryd.underlying63]
  go_simp
  by_cases h1 : a = a' <;> by_cases h2 : b = b' <;> simp [h1, h2]
theorem y_where_neq {C : World → Prop} {n : Nat} {env : Env} {d : Option Nat} {ty t' : TypeId} {ps : String} {af : Array Edge} {g : Option (Nat × Bool)} {x y : Operand} {m m' : Int × Int}
    (hx : ev env x = some (.agg ⟨[i64 m.1, i64 m.2]⟩)) (hy : ev env y = some (.agg ⟨[i64 m'.1, i64 m'.2]⟩)) : Yv Tryd.prog n env C ⟨d, .binOp .neq 63 x y t', ty, ps, af, g⟩ (.bool (!decide (m = m'))) := fun a hA w _ => by
  simp only [execOp, hA.ev hx, hA.ev hy]
  refine run_bind (a := Value.bool (!decide (m = m'))) (w' := w) ?_
  refine (run_bind (a := ()) (w' := w) (run_eqGuard_agg _ _ _ _ _ _ _ (by kernel_rfl))).trans ?_
  exact where_neq m m' w
/-- the shapes that have names -/
def presetQ (n : List UInt8) : Shp × Int :=
  if n = [116, 105, 110, 121] then (⟨3, 8, 2, 1, 1, 2⟩, 0) else if n = [115, 109, 97, 108, 108] then (⟨64, 64, 8, 2, 2, 16⟩, 0)
  else if n = [109, 101, 100, 105, 117, 109] then (⟨256, 256, 32, 4, 4, 96⟩, 0) else if n = [108, 97, 114, 103, 101] then (⟨512, 512, 64, 8, 8, 256⟩, 0) else (⟨0, 0, 0, 0, 0, 0⟩, 160)
theorem preset_ok {n : List UInt8} (h : (presetQ n).2 = 0) : okS (presetQ n).1 := by
  unfold presetQ at h ⊢
  (repeat' split at h) <;> first | (cases h; done) | (simp_all; decide)
set_option maxHeartbeats 4000000 in
theorem wPreset (n : List UInt8) (w : World) : CallsF Tryd.prog 30 [sv n] w fun r w' => r = .tuple #[shpV (presetQ n).1, i64 (presetQ n).2] ∧ Fr no w w' := by
  unfold presetQ
  refine callsF Tryd.func30 rfl rfl (by decide) rfl ?_
  refine sA [] rfl ?_
  refine ev_alloc rfl rfl inf23 (fun q w2 hq kq f2 => ?_)
  refine sC [] rfl ?_; refine sC [] rfl ?_; refine sC [] rfl ?_; refine sD [] rfl ?_
  by_cases c0 : n = [116, 105, 110, 121]
  · rw [show decide (n = [116, 105, 110, 121]) = true from decide_eq_true c0, if_pos c0]
    refine sA [] rfl ?_
    refine ev_build rfl rfl (v := shpV ⟨3, 8, 2, 1, 1, 2⟩) rfl (fun w => by kernel_rfl) ?_
    skip
    refine ev_storeAgg tabOk rfl rfl rfl rfl rfl rfl kq rfl (fun wz kz fz => ?_)
    refine sA [] rfl ?_
    exact retG tabOk (.inr rfl) rfl [shpV ⟨3, 8, 2, 1, 1, 2⟩, i64 0] ⟨⟨_, rfl, .inl ⟨rfl, _, rfl, rfl, Cs.of_blk kz⟩⟩, rfl, trivial⟩ ⟨rfl, f2.trans fz fun z hz e => by have : z = q := e; omega⟩
  rw [show decide (n = [116, 105, 110, 121]) = false from decide_eq_false c0, if_neg c0]
  refine sC [] rfl ?_; refine sD [] rfl ?_; refine sD [] rfl ?_
  by_cases c1 : n = [115, 109, 97, 108, 108]
  · rw [show decide (n = [115, 109, 97, 108, 108]) = true from decide_eq_true c1, if_pos c1]
    refine sA [] rfl ?_
    refine ev_build rfl rfl (v := shpV ⟨64, 64, 8, 2, 2, 16⟩) rfl (fun w => by kernel_rfl) ?_
    skip
    refine ev_storeAgg tabOk rfl rfl rfl rfl rfl rfl kq rfl (fun wz kz fz => ?_)
    refine sA [] rfl ?_
    exact retG tabOk (.inr rfl) rfl [shpV ⟨64, 64, 8, 2, 2, 16⟩, i64 0] ⟨⟨_, rfl, .inl ⟨rfl, _, rfl, rfl, Cs.of_blk kz⟩⟩, rfl, trivial⟩ ⟨rfl, f2.trans fz fun z hz e => by have : z = q := e; omega⟩
  rw [show decide (n = [115, 109, 97, 108, 108]) = false from decide_eq_false c1, if_neg c1]
  refine sC [] rfl ?_; refine sD [] rfl ?_; refine sD [] rfl ?_
  by_cases c2 : n = [109, 101, 100, 105, 117, 109]
  · rw [show decide (n = [109, 101, 100, 105, 117, 109]) = true from decide_eq_true c2, if_pos c2]
    refine sA [] rfl ?_
    refine ev_build rfl rfl (v := shpV ⟨256, 256, 32, 4, 4, 96⟩) rfl (fun w => by kernel_rfl) ?_
    skip
    refine ev_storeAgg tabOk rfl rfl rfl rfl rfl rfl kq rfl (fun wz kz fz => ?_)
    refine sA [] rfl ?_
    exact retG tabOk (.inr rfl) rfl [shpV ⟨256, 256, 32, 4, 4, 96⟩, i64 0] ⟨⟨_, rfl, .inl ⟨rfl, _, rfl, rfl, Cs.of_blk kz⟩⟩, rfl, trivial⟩ ⟨rfl, f2.trans fz fun z hz e => by have : z = q := e; omega⟩
  rw [show decide (n = [109, 101, 100, 105, 117, 109]) = false from decide_eq_false c2, if_neg c2]
  refine sC [] rfl ?_; refine sD [] rfl ?_; refine sD [] rfl ?_
  by_cases c3 : n = [108, 97, 114, 103, 101]
  · rw [show decide (n = [108, 97, 114, 103, 101]) = true from decide_eq_true c3, if_pos c3]
    refine sA [] rfl ?_
    refine ev_build rfl rfl (v := shpV ⟨512, 512, 64, 8, 8, 256⟩) rfl (fun w => by kernel_rfl) ?_
    skip
    refine ev_storeAgg tabOk rfl rfl rfl rfl rfl rfl kq rfl (fun wz kz fz => ?_)
    refine sA [] rfl ?_
    exact retG tabOk (.inr rfl) rfl [shpV ⟨512, 512, 64, 8, 8, 256⟩, i64 0] ⟨⟨_, rfl, .inl ⟨rfl, _, rfl, rfl, Cs.of_blk kz⟩⟩, rfl, trivial⟩ ⟨rfl, f2.trans fz fun z hz e => by have : z = q := e; omega⟩
  rw [show decide (n = [108, 97, 114, 103, 101]) = false from decide_eq_false c3, if_neg c3]
  refine sA [] rfl ?_
  refine ev_build rfl rfl (v := shpV ⟨0, 0, 0, 0, 0, 0⟩) rfl (fun w => by kernel_rfl) ?_
  skip
  refine ev_storeAgg tabOk rfl rfl rfl rfl rfl rfl kq rfl (fun wz kz fz => ?_)
  refine sA [] rfl ?_
  exact retG tabOk (.inr rfl) rfl [shpV ⟨0, 0, 0, 0, 0, 0⟩, i64 160] ⟨⟨_, rfl, .inl ⟨rfl, _, rfl, rfl, Cs.of_blk kz⟩⟩, rfl, trivial⟩ ⟨rfl, f2.trans fz fun z hz e => by have : z = q := e; omega⟩
set_option maxHeartbeats 4000000 in
theorem refPreset (n : List UInt8) (w : World) : CallsF Tryd.prog 31 [sv n] w fun r w' => r = .tuple #[shpV (presetQ n).1, i64 (presetQ n).2] ∧ Fr no w w' := by
  unfold presetQ
  refine callsF Tryd.func31 rfl rfl (by decide) rfl ?_
  refine sA [] rfl ?_
  refine ev_alloc rfl rfl inf30 (fun q w2 hq kq f2 => ?_)
  refine sC [] rfl ?_; refine sC [] rfl ?_; refine sC [] rfl ?_; refine sD [] rfl ?_
  by_cases c0 : n = [116, 105, 110, 121]
  · rw [show decide (n = [116, 105, 110, 121]) = true from decide_eq_true c0, if_pos c0]
    refine sA [] rfl ?_
    refine ev_build rfl rfl (v := shpV ⟨3, 8, 2, 1, 1, 2⟩) rfl (fun w => by kernel_rfl) ?_
    skip
    refine ev_storeAgg tabOk rfl rfl rfl rfl rfl rfl kq rfl (fun wz kz fz => ?_)
    refine sA [] rfl ?_
    exact retG tabOk (.inr rfl) rfl [shpV ⟨3, 8, 2, 1, 1, 2⟩, i64 0] ⟨⟨_, rfl, .inl ⟨rfl, _, rfl, rfl, Cs.of_blk kz⟩⟩, rfl, trivial⟩ ⟨rfl, f2.trans fz fun z hz e => by have : z = q := e; omega⟩
  rw [show decide (n = [116, 105, 110, 121]) = false from decide_eq_false c0, if_neg c0]
  refine sC [] rfl ?_; refine sD [] rfl ?_; refine sD [] rfl ?_
  by_cases c1 : n = [115, 109, 97, 108, 108]
  · rw [show decide (n = [115, 109, 97, 108, 108]) = true from decide_eq_true c1, if_pos c1]
    refine sA [] rfl ?_
    refine ev_build rfl rfl (v := shpV ⟨64, 64, 8, 2, 2, 16⟩) rfl (fun w => by kernel_rfl) ?_
    skip
    refine ev_storeAgg tabOk rfl rfl rfl rfl rfl rfl kq rfl (fun wz kz fz => ?_)
    refine sA [] rfl ?_
    exact retG tabOk (.inr rfl) rfl [shpV ⟨64, 64, 8, 2, 2, 16⟩, i64 0] ⟨⟨_, rfl, .inl ⟨rfl, _, rfl, rfl, Cs.of_blk kz⟩⟩, rfl, trivial⟩ ⟨rfl, f2.trans fz fun z hz e => by have : z = q := e; omega⟩
  rw [show decide (n = [115, 109, 97, 108, 108]) = false from decide_eq_false c1, if_neg c1]
  refine sC [] rfl ?_; refine sD [] rfl ?_; refine sD [] rfl ?_
  by_cases c2 : n = [109, 101, 100, 105, 117, 109]
  · rw [show decide (n = [109, 101, 100, 105, 117, 109]) = true from decide_eq_true c2, if_pos c2]
    refine sA [] rfl ?_
    refine ev_build rfl rfl (v := shpV ⟨256, 256, 32, 4, 4, 96⟩) rfl (fun w => by kernel_rfl) ?_
    skip
    refine ev_storeAgg tabOk rfl rfl rfl rfl rfl rfl kq rfl (fun wz kz fz => ?_)
    refine sA [] rfl ?_
    exact retG tabOk (.inr rfl) rfl [shpV ⟨256, 256, 32, 4, 4, 96⟩, i64 0] ⟨⟨_, rfl, .inl ⟨rfl, _, rfl, rfl, Cs.of_blk kz⟩⟩, rfl, trivial⟩ ⟨rfl, f2.trans fz fun z hz e => by have : z = q := e; omega⟩
  rw [show decide (n = [109, 101, 100, 105, 117, 109]) = false from decide_eq_false c2, if_neg c2]
  refine sC [] rfl ?_; refine sD [] rfl ?_; refine sD [] rfl ?_
  by_cases c3 : n = [108, 97, 114, 103, 101]
  · rw [show decide (n = [108, 97, 114, 103, 101]) = true from decide_eq_true c3, if_pos c3]
    refine sA [] rfl ?_
    refine ev_build rfl rfl (v := shpV ⟨512, 512, 64, 8, 8, 256⟩) rfl (fun w => by kernel_rfl) ?_
    skip
    refine ev_storeAgg tabOk rfl rfl rfl rfl rfl rfl kq rfl (fun wz kz fz => ?_)
    refine sA [] rfl ?_
    exact retG tabOk (.inr rfl) rfl [shpV ⟨512, 512, 64, 8, 8, 256⟩, i64 0] ⟨⟨_, rfl, .inl ⟨rfl, _, rfl, rfl, Cs.of_blk kz⟩⟩, rfl, trivial⟩ ⟨rfl, f2.trans fz fun z hz e => by have : z = q := e; omega⟩
  rw [show decide (n = [108, 97, 114, 103, 101]) = false from decide_eq_false c3, if_neg c3]
  refine sA [] rfl ?_
  refine ev_build rfl rfl (v := shpV ⟨0, 0, 0, 0, 0, 0⟩) rfl (fun w => by kernel_rfl) ?_
  skip
  refine ev_storeAgg tabOk rfl rfl rfl rfl rfl rfl kq rfl (fun wz kz fz => ?_)
  refine sA [] rfl ?_
  exact retG tabOk (.inr rfl) rfl [shpV ⟨0, 0, 0, 0, 0, 0⟩, i64 160] ⟨⟨_, rfl, .inl ⟨rfl, _, rfl, rfl, Cs.of_blk kz⟩⟩, rfl, trivial⟩ ⟨rfl, f2.trans fz fun z hz e => by have : z = q := e; omega⟩
end Go.Wk.YtfgllkflnkolhaaDoor
namespace Go.Wk.YtfgllkflnkolhaaDoor
open Go Go.Wk Go.Proofs

theorem cost_ok {s : Shp} {n : Int} (h : (costQ s n).2.2.2.2 = 0) : okS s ∧ 0 ≤ n ∧ n ≤ s.ctx ∧ costQ s n = (numS s, 2 * s.dim * s.lay * n, s.lay * (4 * s.dim * s.dim + 2 * s.dim * n + 3 * s.dim * s.hid), s.voc * s.dim, 0) := by
  unfold costQ at h ⊢
  split at h
  · rename_i o
    split at h
    · cases h
    · rename_i c
      exact ⟨o, by omega, by omega, by rw [if_pos o, if_neg c]⟩
  · cases h
theorem cost_less {s : Shp} {n : Int} (h : (costQ s n).2.2.2.2 = 0) (h1 : 1 ≤ n) :
    (costQ s (n - 1)).2.2.2.2 = 0 ∧ (costQ s (n - 1)).2.1 < (costQ s n).2.1 ∧ (costQ s (n - 1)).2.2.1 < (costQ s n).2.2.1 ∧ (costQ s (n - 1)).1 = (costQ s n).1 := by
  obtain ⟨o, h2, h3, e⟩ := cost_ok h
  have o' := o
  obtain ⟨_, _, ⟨d1, d2⟩, _, _, _, ⟨l1, l2⟩, _⟩ := o
  have e2 : costQ s (n - 1) = (numS s, 2 * s.dim * s.lay * (n - 1), s.lay * (4 * s.dim * s.dim + 2 * s.dim * (n - 1) + 3 * s.dim * s.hid), s.voc * s.dim, 0) := by
    unfold costQ; rw [if_pos o', if_neg (by omega)]
  rw [e, e2]
  have p1 : 0 < s.dim * s.lay := Int.mul_pos (by omega) (by omega)
  have p2 : 0 < 2 * s.dim * s.lay := by rw [Int.mul_assoc]; omega
  refine ⟨rfl, Int.mul_lt_mul_of_pos_left (by omega) p2, Int.mul_lt_mul_of_pos_left ?_ (by omega), rfl⟩
  have := Int.mul_lt_mul_of_pos_left (show n - 1 < n by omega) (show 0 < 2 * s.dim by omega)
  omega
theorem neq_same (x : Int) : decide (¬ x = x) = false := decide_eq_false fun h => h rfl
set_option maxHeartbeats 8000000 in
theorem lawCosts (s : Shp) (n : Int) (name : List UInt8) (w : World) (hT : QT w) (hn : -9223372036854775808 ≤ n ∧ n ≤ 9223372036854775807) :
    CallsF Tryd.prog 7 [shpV s, i64 n, sv name] w fun r w' => r = .bool true ∧ Fr no w w' := by
  refine callsF Tryd.func7 rfl rfl (by decide) rfl ?_
  refine sA [] rfl ?_
  refine ev_box rfl rfl rfl fun p w1 hp kp f1 => ?_
  refine sA [] rfl ?_
  refine ev_call rfl rfl rfl (lAwake w1 (hT.fr0 f1)) ?_
  rintro r w2 ⟨rfl, f2⟩
  have kp2 := kp.fr0 f2
  have hf2 := f1.tr f2
  refine sA [] rfl ?_; refine ev_loadAggB rfl rfl tabOk rfl rfl ‹_› (by rfl) ?_; refine sA [] rfl ?_
  refine ev_call rfl rfl rfl (wCosts s n w2) ?_
  rintro r w3 ⟨rfl, f3⟩
  have kp3 := kp2.fr0 f3
  have hf3 := hf2.tr f3
  clear kp kp2
  refine sA [] rfl ?_
  refine ev_alloc rfl rfl inf78 (fun a w4 ha ka f4 => ?_)
  refine ev_storeAgg tabOk rfl rfl rfl rfl rfl rfl ka rfl (fun w5 ka5 f5 => ?_)
  have h35 : Fr no w3 w5 := f4.trans f5 fun z hz e => by have : z = a := e; omega
  have kp5 := kp3.fr0 h35
  have hf5 := hf3.tr h35
  clear kp3 ka
  refine sA [] rfl ?_; refine ev_loadAggB rfl rfl tabOk rfl rfl ‹_› (by rfl) ?_
  refine ev_call rfl rfl rfl (lPlain s w5) ?_
  rintro r w6 ⟨rfl, f6⟩
  refine sA [] rfl ?_
  refine ev_call rfl rfl rfl (refCosts s n w6) ?_
  rintro r w7 ⟨rfl, f7⟩
  have h57 := f6.tr f7
  have kp7 := kp5.fr0 h57
  have ka7 := ka5.fr0 h57
  have hf7 := hf5.tr h57
  clear kp5 ka5
  refine sA [] rfl ?_
  refine ev_alloc rfl rfl inf81 (fun b w8 hb kb f8 => ?_)
  refine ev_storeAgg tabOk rfl rfl rfl rfl rfl rfl kb rfl (fun w9 kb9 f9 => ?_)
  have h79 : Fr no w7 w9 := f8.trans f9 fun z hz e => by have : z = b := e; omega
  have kp9 := kp7.fr0 h79
  have ka9 := ka7.fr0 h79
  have hf9 := hf7.tr h79
  clear kp7 ka7 kb
  have hk := fun h => @cost_ok s n h
  have hl := fun h h1 => @cost_less s n h h1
  obtain ⟨⟨c1, c2, c3, c4, c5⟩, hc⟩ : ∃ c, c = costQ s n := ⟨_, rfl⟩
  rw [← hc] at ka9 kb9 hk hl ⊢
  refine sA [] rfl ?_; refine ev_loadB rfl rfl tabOk rfl rfl ‹_› (by rfl) ?_; refine sA [] rfl ?_; refine ev_loadB rfl rfl tabOk rfl rfl ‹_› (by rfl) ?_; refine sD [] rfl ?_; refine sD [] rfl ?_
  rw [show decide (¬ (c1, c2, c3, c4, c5).1 = (c1, c2, c3, c4, c5).1) = false from neq_same c1]
  refine sA [] rfl ?_; refine ev_loadB rfl rfl tabOk rfl rfl ‹_› (by rfl) ?_; refine sA [] rfl ?_; refine ev_loadB rfl rfl tabOk rfl rfl ‹_› (by rfl) ?_; refine sD [] rfl ?_; refine sD [] rfl ?_; refine sD [] rfl ?_
  rw [show decide (¬ (c1, c2, c3, c4, c5).2.1 = (c1, c2, c3, c4, c5).2.1) = false from neq_same c2]
  refine sA [] rfl ?_; refine ev_loadB rfl rfl tabOk rfl rfl ‹_› (by rfl) ?_; refine sA [] rfl ?_; refine ev_loadB rfl rfl tabOk rfl rfl ‹_› (by rfl) ?_; refine sD [] rfl ?_; refine sD [] rfl ?_; refine sD [] rfl ?_
  rw [show decide (¬ (c1, c2, c3, c4, c5).2.2.1 = (c1, c2, c3, c4, c5).2.2.1) = false from neq_same c3]
  refine sA [] rfl ?_; refine ev_loadB rfl rfl tabOk rfl rfl ‹_› (by rfl) ?_; refine sA [] rfl ?_; refine ev_loadB rfl rfl tabOk rfl rfl ‹_› (by rfl) ?_; refine sD [] rfl ?_; refine sD [] rfl ?_; refine sD [] rfl ?_
  rw [show decide (¬ (c1, c2, c3, c4, c5).2.2.2.1 = (c1, c2, c3, c4, c5).2.2.2.1) = false from neq_same c4]
  refine sC [] rfl ?_; refine sD [] rfl ?_
  rw [show decide (¬ (c1, c2, c3, c4, c5).2.2.2.2 = (c1, c2, c3, c4, c5).2.2.2.2) = false from neq_same c5]
  refine sA [] rfl ?_
  clear kb9
  refine ev_call rfl rfl rfl (wPreset name w9) ?_
  rintro r wa ⟨rfl, fa⟩
  have kpa := kp9.fr0 fa
  have kaa := ka9.fr0 fa
  have hfa := hf9.tr fa
  refine sA [] rfl ?_
  refine ev_alloc rfl rfl inf23 (fun x wb hx kx fb => ?_)
  refine ev_storeAgg tabOk rfl rfl rfl rfl rfl rfl kx rfl (fun wc kxc fc => ?_)
  have hac : Fr no wa wc := fb.trans fc fun z hz e => by have : z = x := e; omega
  have kpc := kpa.fr0 hac
  have kac := kaa.fr0 hac
  have hfc := hfa.tr hac
  clear kp9 ka9 kpa kaa kx
  refine sA [] rfl ?_
  refine ev_call rfl rfl rfl (refPreset name wc) ?_
  rintro r wd ⟨rfl, fd⟩
  have kpd := kpc.fr0 fd
  have kad := kac.fr0 fd
  have kxd := kxc.fr0 fd
  have hfd := hfc.tr fd
  clear kpc kac kxc
  refine sA [] rfl ?_
  refine ev_alloc rfl rfl inf30 (fun y we hy ky fe => ?_)
  refine ev_storeAgg tabOk rfl rfl rfl rfl rfl rfl ky rfl (fun wf kyf ff => ?_)
  have hdf : Fr no wd wf := fe.trans ff fun z hz e => by have : z = y := e; omega
  have kpf := kpd.fr0 hdf
  have kaf := kad.fr0 hdf
  have kxf := kxd.fr0 hdf
  have hff := hfd.tr hdf
  clear kpd kad kxd ky
  have hpo := @preset_ok name
  obtain ⟨⟨u, v⟩, huv⟩ : ∃ u, u = presetQ name := ⟨_, rfl⟩
  rw [← huv] at kxf kyf hpo ⊢
  have hpo : v = 0 → okS u := hpo
  refine sA [] rfl ?_
  refine ev_draw mixed (by kernel_rfl) ?_
  refine q_loadAggB rfl rfl tabOk rfl rfl ‹_› (by rfl) ?_
  refine q_call rfl rfl rfl (fun w' hw' => (lPlain u w').mono fun u w'' z => ⟨z.1, hw'.tr z.2⟩) ?_
  refine q_loadAggB rfl rfl tabOk rfl rfl ‹_› (by rfl) ?_
  refine q_y rfl rfl (y_shpR_neq (m := u) (m' := u) rfl rfl) ?_
  rw [show (!decide (u = u)) = false by rw [decide_eq_true rfl]; rfl]
  refine qC rfl ?_; refine qD rfl ?_; refine qD rfl ?_
  rw [show decide (¬ (u, v).2 = (u, v).2) = false from neq_same v]
  refine qD rfl ?_; refine qD rfl ?_; refine qD rfl ?_
  by_cases cv : v = 0
  rotate_left
  rw [show decide ((u, v).2 = 0) = false from decide_eq_false cv]
  refine qA rfl ?_
  rotate_left
  rw [show decide ((u, v).2 = 0) = true from decide_eq_true cv]
  refine q_loadAggB rfl rfl tabOk rfl rfl ‹_› (by rfl) ?_
  refine q_call rfl rfl rfl (fun w' hw' => (wChk u w').mono fun u w'' z => ⟨z.1, hw'.tr z.2⟩) ?_
  rw [chk_y (hpo cv)]
  refine qA rfl ?_
  all_goals
    refine q_end fun wg fg => ?_
    have kpg := kpf.fr0 fg
    have kag := kaf.fr0 fg
    have hfg := hff.tr fg
    clear kpf kaf kxf kyf
    have hc5 : (c1, c2, c3, c4, c5).2.2.2.2 = c5 := rfl
    repeat (first | refine sA [] rfl ?_ | refine sB [] rfl ?_ | refine sC [] rfl ?_ | refine sD [] rfl ?_ | refine ev_load rfl rfl tabOk rfl rfl ‹_› ?_ | refine ev_loadB rfl rfl tabOk rfl rfl ‹_› (by rfl) ?_ | refine ev_loadAggB rfl rfl tabOk rfl rfl ‹_› (by rfl) ?_ | refine ev_arith rfl rfl rfl rfl rfl (by simp only [lowK, hiK]; omega) ?_ | refine ev_rem rfl rfl rfl rfl (by omega) (by omega) ?_ | refine ev_quo rfl rfl rfl rfl (by omega) (by omega) (by simp only [hiK]; omega) ?_ | refine ev_index rfl rfl tabOk rfl rfl rfl (by omega) (by omega) ?_ | refine ev_indexA rfl rfl tabOk rfl rfl rfl (by omega) (by omega) rfl ?_ | refine ev_convB rfl rfl tabOk rfl rfl rfl rfl ?_ | refine ev_conv rfl rfl tabOk rfl rfl rfl (by simp only [lowK, hiK]; omega) ?_)
    by_cases e5 : c5 = 0
    rotate_left
    · rw [show decide (¬ (c1, c2, c3, c4, c5).2.2.2.2 = 0) = true from decide_eq_true e5]
      repeat (first | refine sA [] rfl ?_ | refine sB [] rfl ?_ | refine sC [] rfl ?_ | refine sD [] rfl ?_ | refine ev_load rfl rfl tabOk rfl rfl ‹_› ?_ | refine ev_loadB rfl rfl tabOk rfl rfl ‹_› (by rfl) ?_ | refine ev_loadAggB rfl rfl tabOk rfl rfl ‹_› (by rfl) ?_ | refine ev_arith rfl rfl rfl rfl rfl (by simp only [lowK, hiK]; omega) ?_ | refine ev_rem rfl rfl rfl rfl (by omega) (by omega) ?_ | refine ev_quo rfl rfl rfl rfl (by omega) (by omega) (by simp only [hiK]; omega) ?_ | refine ev_index rfl rfl tabOk rfl rfl rfl (by omega) (by omega) ?_ | refine ev_indexA rfl rfl tabOk rfl rfl rfl (by omega) (by omega) rfl ?_ | refine ev_convB rfl rfl tabOk rfl rfl rfl rfl ?_ | refine ev_conv rfl rfl tabOk rfl rfl rfl (by simp only [lowK, hiK]; omega) ?_)
      exact ret1 (.inr rfl) rfl rfl ⟨rfl, hfg⟩
    rw [show decide (¬ (c1, c2, c3, c4, c5).2.2.2.2 = 0) = false from decide_eq_false fun h => h e5]
    repeat (first | refine sA [] rfl ?_ | refine sB [] rfl ?_ | refine sC [] rfl ?_ | refine sD [] rfl ?_ | refine ev_load rfl rfl tabOk rfl rfl ‹_› ?_ | refine ev_loadB rfl rfl tabOk rfl rfl ‹_› (by rfl) ?_ | refine ev_loadAggB rfl rfl tabOk rfl rfl ‹_› (by rfl) ?_ | refine ev_arith rfl rfl rfl rfl rfl (by simp only [lowK, hiK]; omega) ?_ | refine ev_rem rfl rfl rfl rfl (by omega) (by omega) ?_ | refine ev_quo rfl rfl rfl rfl (by omega) (by omega) (by simp only [hiK]; omega) ?_ | refine ev_index rfl rfl tabOk rfl rfl rfl (by omega) (by omega) ?_ | refine ev_indexA rfl rfl tabOk rfl rfl rfl (by omega) (by omega) rfl ?_ | refine ev_convB rfl rfl tabOk rfl rfl rfl rfl ?_ | refine ev_conv rfl rfl tabOk rfl rfl rfl (by simp only [lowK, hiK]; omega) ?_)
    by_cases e1 : n < 1
    · rw [show decide (n < 1) = true from decide_eq_true e1]
      repeat (first | refine sA [] rfl ?_ | refine sB [] rfl ?_ | refine sC [] rfl ?_ | refine sD [] rfl ?_ | refine ev_load rfl rfl tabOk rfl rfl ‹_› ?_ | refine ev_loadB rfl rfl tabOk rfl rfl ‹_› (by rfl) ?_ | refine ev_loadAggB rfl rfl tabOk rfl rfl ‹_› (by rfl) ?_ | refine ev_arith rfl rfl rfl rfl rfl (by simp only [lowK, hiK]; omega) ?_ | refine ev_rem rfl rfl rfl rfl (by omega) (by omega) ?_ | refine ev_quo rfl rfl rfl rfl (by omega) (by omega) (by simp only [hiK]; omega) ?_ | refine ev_index rfl rfl tabOk rfl rfl rfl (by omega) (by omega) ?_ | refine ev_indexA rfl rfl tabOk rfl rfl rfl (by omega) (by omega) rfl ?_ | refine ev_convB rfl rfl tabOk rfl rfl rfl rfl ?_ | refine ev_conv rfl rfl tabOk rfl rfl rfl (by simp only [lowK, hiK]; omega) ?_)
      exact ret1 (.inr rfl) rfl rfl ⟨rfl, hfg⟩
    rw [show decide (n < 1) = false from decide_eq_false e1]
    obtain ⟨l1, l2, l3, l4⟩ := hl e5 (by omega)
    repeat (first | refine sA [] rfl ?_ | refine sB [] rfl ?_ | refine sC [] rfl ?_ | refine sD [] rfl ?_ | refine ev_load rfl rfl tabOk rfl rfl ‹_› ?_ | refine ev_loadB rfl rfl tabOk rfl rfl ‹_› (by rfl) ?_ | refine ev_loadAggB rfl rfl tabOk rfl rfl ‹_› (by rfl) ?_ | refine ev_arith rfl rfl rfl rfl rfl (by simp only [lowK, hiK]; omega) ?_ | refine ev_rem rfl rfl rfl rfl (by omega) (by omega) ?_ | refine ev_quo rfl rfl rfl rfl (by omega) (by omega) (by simp only [hiK]; omega) ?_ | refine ev_index rfl rfl tabOk rfl rfl rfl (by omega) (by omega) ?_ | refine ev_indexA rfl rfl tabOk rfl rfl rfl (by omega) (by omega) rfl ?_ | refine ev_convB rfl rfl tabOk rfl rfl rfl rfl ?_ | refine ev_conv rfl rfl tabOk rfl rfl rfl (by simp only [lowK, hiK]; omega) ?_)
    refine ev_call rfl rfl rfl (wCosts s (n - 1) wg) ?_
    rintro r wh ⟨rfl, fh⟩
    have kah := kag.fr0 fh
    have hfh := hfg.tr fh
    repeat (first | refine sA [] rfl ?_ | refine sB [] rfl ?_ | refine sC [] rfl ?_ | refine sD [] rfl ?_ | refine ev_load rfl rfl tabOk rfl rfl ‹_› ?_ | refine ev_loadB rfl rfl tabOk rfl rfl ‹_› (by rfl) ?_ | refine ev_loadAggB rfl rfl tabOk rfl rfl ‹_› (by rfl) ?_ | refine ev_arith rfl rfl rfl rfl rfl (by simp only [lowK, hiK]; omega) ?_ | refine ev_rem rfl rfl rfl rfl (by omega) (by omega) ?_ | refine ev_quo rfl rfl rfl rfl (by omega) (by omega) (by simp only [hiK]; omega) ?_ | refine ev_index rfl rfl tabOk rfl rfl rfl (by omega) (by omega) ?_ | refine ev_indexA rfl rfl tabOk rfl rfl rfl (by omega) (by omega) rfl ?_ | refine ev_convB rfl rfl tabOk rfl rfl rfl rfl ?_ | refine ev_conv rfl rfl tabOk rfl rfl rfl (by simp only [lowK, hiK]; omega) ?_)
    refine ev_alloc rfl rfl inf78 (fun z wi hz kz fi => ?_)
    refine ev_storeAgg tabOk rfl rfl rfl rfl rfl rfl kz rfl (fun wj kzj fj => ?_)
    have hhj : Fr no wh wj := fi.trans fj fun y hy e => by have : y = z := e; omega
    have kaj := kah.fr0 hhj
    have hfj := hfh.tr hhj
    clear kag kah kz
    rw [l1]
    repeat (first | refine sA [] rfl ?_ | refine sB [] rfl ?_ | refine sC [] rfl ?_ | refine sD [] rfl ?_ | refine ev_load rfl rfl tabOk rfl rfl ‹_› ?_ | refine ev_loadB rfl rfl tabOk rfl rfl ‹_› (by rfl) ?_ | refine ev_loadAggB rfl rfl tabOk rfl rfl ‹_› (by rfl) ?_ | refine ev_arith rfl rfl rfl rfl rfl (by simp only [lowK, hiK]; omega) ?_ | refine ev_rem rfl rfl rfl rfl (by omega) (by omega) ?_ | refine ev_quo rfl rfl rfl rfl (by omega) (by omega) (by simp only [hiK]; omega) ?_ | refine ev_index rfl rfl tabOk rfl rfl rfl (by omega) (by omega) ?_ | refine ev_indexA rfl rfl tabOk rfl rfl rfl (by omega) (by omega) rfl ?_ | refine ev_convB rfl rfl tabOk rfl rfl rfl rfl ?_ | refine ev_conv rfl rfl tabOk rfl rfl rfl (by simp only [lowK, hiK]; omega) ?_)
    rw [show decide ((costQ s (n - 1)).2.1 < (c1, c2, c3, c4, c5).2.1) = true from decide_eq_true l2]
    repeat (first | refine sA [] rfl ?_ | refine sB [] rfl ?_ | refine sC [] rfl ?_ | refine sD [] rfl ?_ | refine ev_load rfl rfl tabOk rfl rfl ‹_› ?_ | refine ev_loadB rfl rfl tabOk rfl rfl ‹_› (by rfl) ?_ | refine ev_loadAggB rfl rfl tabOk rfl rfl ‹_› (by rfl) ?_ | refine ev_arith rfl rfl rfl rfl rfl (by simp only [lowK, hiK]; omega) ?_ | refine ev_rem rfl rfl rfl rfl (by omega) (by omega) ?_ | refine ev_quo rfl rfl rfl rfl (by omega) (by omega) (by simp only [hiK]; omega) ?_ | refine ev_index rfl rfl tabOk rfl rfl rfl (by omega) (by omega) ?_ | refine ev_indexA rfl rfl tabOk rfl rfl rfl (by omega) (by omega) rfl ?_ | refine ev_convB rfl rfl tabOk rfl rfl rfl rfl ?_ | refine ev_conv rfl rfl tabOk rfl rfl rfl (by simp only [lowK, hiK]; omega) ?_)
    rw [show decide ((costQ s (n - 1)).2.2.1 < (c1, c2, c3, c4, c5).2.2.1) = true from decide_eq_true l3]
    repeat (first | refine sA [] rfl ?_ | refine sB [] rfl ?_ | refine sC [] rfl ?_ | refine sD [] rfl ?_ | refine ev_load rfl rfl tabOk rfl rfl ‹_› ?_ | refine ev_loadB rfl rfl tabOk rfl rfl ‹_› (by rfl) ?_ | refine ev_loadAggB rfl rfl tabOk rfl rfl ‹_› (by rfl) ?_ | refine ev_arith rfl rfl rfl rfl rfl (by simp only [lowK, hiK]; omega) ?_ | refine ev_rem rfl rfl rfl rfl (by omega) (by omega) ?_ | refine ev_quo rfl rfl rfl rfl (by omega) (by omega) (by simp only [hiK]; omega) ?_ | refine ev_index rfl rfl tabOk rfl rfl rfl (by omega) (by omega) ?_ | refine ev_indexA rfl rfl tabOk rfl rfl rfl (by omega) (by omega) rfl ?_ | refine ev_convB rfl rfl tabOk rfl rfl rfl rfl ?_ | refine ev_conv rfl rfl tabOk rfl rfl rfl (by simp only [lowK, hiK]; omega) ?_)
    rw [show decide ((costQ s (n - 1)).1 = (c1, c2, c3, c4, c5).1) = true from decide_eq_true l4]
    repeat (first | refine sA [] rfl ?_ | refine sB [] rfl ?_ | refine sC [] rfl ?_ | refine sD [] rfl ?_ | refine ev_load rfl rfl tabOk rfl rfl ‹_› ?_ | refine ev_loadB rfl rfl tabOk rfl rfl ‹_› (by rfl) ?_ | refine ev_loadAggB rfl rfl tabOk rfl rfl ‹_› (by rfl) ?_ | refine ev_arith rfl rfl rfl rfl rfl (by simp only [lowK, hiK]; omega) ?_ | refine ev_rem rfl rfl rfl rfl (by omega) (by omega) ?_ | refine ev_quo rfl rfl rfl rfl (by omega) (by omega) (by simp only [hiK]; omega) ?_ | refine ev_index rfl rfl tabOk rfl rfl rfl (by omega) (by omega) ?_ | refine ev_indexA rfl rfl tabOk rfl rfl rfl (by omega) (by omega) rfl ?_ | refine ev_convB rfl rfl tabOk rfl rfl rfl rfl ?_ | refine ev_conv rfl rfl tabOk rfl rfl rfl (by simp only [lowK, hiK]; omega) ?_)
    exact ret1 (.inr rfl) rfl rfl ⟨rfl, hfj⟩
end Go.Wk.YtfgllkflnkolhaaDoor
