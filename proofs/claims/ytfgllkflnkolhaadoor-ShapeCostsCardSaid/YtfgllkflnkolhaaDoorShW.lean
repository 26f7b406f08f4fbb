/-
  Chapter 16: the law ShapeCosts.
-/
import Derived.Test.YtfgllkflnkolhaaDoorShV
set_option linter.unusedVariables false
namespace Go.Wk.YtfgllkflnkolhaaDoor
open Go Go.Wk Go.Proofs

theorem cost_ok {s : Shp} {n : Int} (h : (costQ s n).2.2.2.2 = 0) : okS s ∧ 0 ≤ n ∧ n ≤ s.ctx ∧ costQ s n = (numS s, 2 * s.dim * s.lay * n, s.lay * (4 * s.dim * s.dim + 2 * s.dim * n + 3 * s.dim * s.hid), s.voc * s.dim, 0) := by
  unfold costQ at h ⊢
  split at h
  · rename_i o
    split at h
    · cases h
    · rename_i c
      exact ⟨o, by omega, by omega, by rw [if_pos o, if_neg c]⟩
  · cases h
theorem cost_less {s : Shp} {n : Int} (h : (costQ s n).2.2.2.2 = 0) (h1 : 1 ≤ n) :
    (costQ s (n - 1)).2.2.2.2 = 0 ∧ (costQ s (n - 1)).2.1 < (costQ s n).2.1 ∧ (costQ s (n - 1)).2.2.1 < (costQ s n).2.2.1 ∧ (costQ s (n - 1)).1 = (costQ s n).1 := by
  obtain ⟨o, h2, h3, e⟩ := cost_ok h
  have o' := o
  obtain ⟨_, _, ⟨d1, d2⟩, _, _, _, ⟨l1, l2⟩, _⟩ := o
  have e2 : costQ s (n - 1) = (numS s, 2 * s.dim * s.lay * (n - 1), s.lay * (4 * s.dim * s.dim + 2 * s.dim * (n - 1) + 3 * s.dim * s.hid), s.voc * s.dim, 0) := by
    unfold costQ; rw [if_pos o', if_neg (by omega)]
  rw [e, e2]
  have p1 : 0 < s.dim * s.lay := Int.mul_pos (by omega) (by omega)
  have p2 : 0 < 2 * s.dim * s.lay := by rw [Int.mul_assoc]; omega
  refine ⟨rfl, Int.mul_lt_mul_of_pos_left (by omega) p2, Int.mul_lt_mul_of_pos_left ?_ (by omega), rfl⟩
  have := Int.mul_lt_mul_of_pos_left (show n - 1 < n by omega) (show 0 < 2 * s.dim by omega)
  omega
theorem neq_same (x : Int) : decide (¬ x = x) = false := decide_eq_false fun h => h rfl
set_option maxHeartbeats 8000000 in
theorem lawCosts (s : Shp) (n : Int) (name : List UInt8) (w : World) (hT : QT w) (hn : -9223372036854775808 ≤ n ∧ n ≤ 9223372036854775807) :
    CallsF Tryd.prog 7 [shpV s, i64 n, sv name] w fun r w' => r = .bool true ∧ Fr no w w' := by
  refine callsF Tryd.func7 rfl rfl (by decide) rfl ?_
  refine sA [] rfl ?_
  refine ev_box rfl rfl rfl fun p w1 hp kp f1 => ?_
  refine sA [] rfl ?_
  refine ev_call rfl rfl rfl (lAwake w1 (hT.fr0 f1)) ?_
  rintro r w2 ⟨rfl, f2⟩
  have kp2 := kp.fr0 f2
  have hf2 := f1.tr f2
  refine sA [] rfl ?_; refine ev_loadAggB rfl rfl tabOk rfl rfl ‹_› (by rfl) ?_; refine sA [] rfl ?_
  refine ev_call rfl rfl rfl (wCosts s n w2) ?_
  rintro r w3 ⟨rfl, f3⟩
  have kp3 := kp2.fr0 f3
  have hf3 := hf2.tr f3
  clear kp kp2
  refine sA [] rfl ?_
  refine ev_alloc rfl rfl inf78 (fun a w4 ha ka f4 => ?_)
  refine ev_storeAgg tabOk rfl rfl rfl rfl rfl rfl ka rfl (fun w5 ka5 f5 => ?_)
  have h35 : Fr no w3 w5 := f4.trans f5 fun z hz e => by have : z = a := e; omega
  have kp5 := kp3.fr0 h35
  have hf5 := hf3.tr h35
  clear kp3 ka
  refine sA [] rfl ?_; refine ev_loadAggB rfl rfl tabOk rfl rfl ‹_› (by rfl) ?_
  refine ev_call rfl rfl rfl (lPlain s w5) ?_
  rintro r w6 ⟨rfl, f6⟩
  refine sA [] rfl ?_
  refine ev_call rfl rfl rfl (refCosts s n w6) ?_
  rintro r w7 ⟨rfl, f7⟩
  have h57 := f6.tr f7
  have kp7 := kp5.fr0 h57
  have ka7 := ka5.fr0 h57
  have hf7 := hf5.tr h57
  clear kp5 ka5
  refine sA [] rfl ?_
  refine ev_alloc rfl rfl inf81 (fun b w8 hb kb f8 => ?_)
  refine ev_storeAgg tabOk rfl rfl rfl rfl rfl rfl kb rfl (fun w9 kb9 f9 => ?_)
  have h79 : Fr no w7 w9 := f8.trans f9 fun z hz e => by have : z = b := e; omega
  have kp9 := kp7.fr0 h79
  have ka9 := ka7.fr0 h79
  have hf9 := hf7.tr h79
  clear kp7 ka7 kb
  have hk := fun h => @cost_ok s n h
  have hl := fun h h1 => @cost_less s n h h1
  obtain ⟨⟨c1, c2, c3, c4, c5⟩, hc⟩ : ∃ c, c = costQ s n := ⟨_, rfl⟩
  rw [← hc] at ka9 kb9 hk hl ⊢
  refine sA [] rfl ?_; refine ev_loadB rfl rfl tabOk rfl rfl ‹_› (by rfl) ?_; refine sA [] rfl ?_; refine ev_loadB rfl rfl tabOk rfl rfl ‹_› (by rfl) ?_; refine sD [] rfl ?_; refine sD [] rfl ?_
  rw [show decide (¬ (c1, c2, c3, c4, c5).1 = (c1, c2, c3, c4, c5).1) = false from neq_same c1]
  refine sA [] rfl ?_; refine ev_loadB rfl rfl tabOk rfl rfl ‹_› (by rfl) ?_; refine sA [] rfl ?_; refine ev_loadB rfl rfl tabOk rfl rfl ‹_› (by rfl) ?_; refine sD [] rfl ?_; refine sD [] rfl ?_; refine sD [] rfl ?_
  rw [show decide (¬ (c1, c2, c3, c4, c5).2.1 = (c1, c2, c3, c4, c5).2.1) = false from neq_same c2]
  refine sA [] rfl ?_; refine ev_loadB rfl rfl tabOk rfl rfl ‹_› (by rfl) ?_; refine sA [] rfl ?_; refine ev_loadB rfl rfl tabOk rfl rfl ‹_› (by rfl) ?_; refine sD [] rfl ?_; refine sD [] rfl ?_; refine sD [] rfl ?_
  rw [show decide (¬ (c1, c2, c3, c4, c5).2.2.1 = (c1, c2, c3, c4, c5).2.2.1) = false from neq_same c3]
  refine sA [] rfl ?_; refine ev_loadB rfl rfl tabOk rfl rfl ‹_› (by rfl) ?_; refine sA [] rfl ?_; refine ev_loadB rfl rfl tabOk rfl rfl ‹_› (by rfl) ?_; refine sD [] rfl ?_; refine sD [] rfl ?_; refine sD [] rfl ?_
  rw [show decide (¬ (c1, c2, c3, c4, c5).2.2.2.1 = (c1, c2, c3, c4, c5).2.2.2.1) = false from neq_same c4]
  refine sC [] rfl ?_; refine sD [] rfl ?_
  rw [show decide (¬ (c1, c2, c3, c4, c5).2.2.2.2 = (c1, c2, c3, c4, c5).2.2.2.2) = false from neq_same c5]
  refine sA [] rfl ?_
  clear kb9
  refine ev_call rfl rfl rfl (wPreset name w9) ?_
  rintro r wa ⟨rfl, fa⟩
  have kpa := kp9.fr0 fa
  have kaa := ka9.fr0 fa
  have hfa := hf9.tr fa
  refine sA [] rfl ?_
  refine ev_alloc rfl rfl inf23 (fun x wb hx kx fb => ?_)
  refine ev_storeAgg tabOk rfl rfl rfl rfl rfl rfl kx rfl (fun wc kxc fc => ?_)
  have hac : Fr no wa wc := fb.trans fc fun z hz e => by have : z = x := e; omega
  have kpc := kpa.fr0 hac
  have kac := kaa.fr0 hac
  have hfc := hfa.tr hac
  clear kp9 ka9 kpa kaa kx
  refine sA [] rfl ?_
  refine ev_call rfl rfl rfl (refPreset name wc) ?_
  rintro r wd ⟨rfl, fd⟩
  have kpd := kpc.fr0 fd
  have kad := kac.fr0 fd
  have kxd := kxc.fr0 fd
  have hfd := hfc.tr fd
  clear kpc kac kxc
  refine sA [] rfl ?_
  refine ev_alloc rfl rfl inf30 (fun y we hy ky fe => ?_)
  refine ev_storeAgg tabOk rfl rfl rfl rfl rfl rfl ky rfl (fun wf kyf ff => ?_)
  have hdf : Fr no wd wf := fe.trans ff fun z hz e => by have : z = y := e; omega
  have kpf := kpd.fr0 hdf
  have kaf := kad.fr0 hdf
  have kxf := kxd.fr0 hdf
  have hff := hfd.tr hdf
  clear kpd kad kxd ky
  have hpo := @preset_ok name
  obtain ⟨⟨u, v⟩, huv⟩ : ∃ u, u = presetQ name := ⟨_, rfl⟩
  rw [← huv] at kxf kyf hpo ⊢
  have hpo : v = 0 → okS u := hpo
  refine sA [] rfl ?_
  refine ev_draw mixed (by kernel_rfl) ?_
  refine q_loadAggB rfl rfl tabOk rfl rfl ‹_› (by rfl) ?_
  refine q_call rfl rfl rfl (fun w' hw' => (lPlain u w').mono fun u w'' z => ⟨z.1, hw'.tr z.2⟩) ?_
  refine q_loadAggB rfl rfl tabOk rfl rfl ‹_› (by rfl) ?_
  refine q_y rfl rfl (y_shpR_neq (m := u) (m' := u) rfl rfl) ?_
  rw [show (!decide (u = u)) = false by rw [decide_eq_true rfl]; rfl]
  refine qC rfl ?_; refine qD rfl ?_; refine qD rfl ?_
  rw [show decide (¬ (u, v).2 = (u, v).2) = false from neq_same v]
  refine qD rfl ?_; refine qD rfl ?_; refine qD rfl ?_
  by_cases cv : v = 0
  rotate_left
  rw [show decide ((u, v).2 = 0) = false from decide_eq_false cv]
  refine qA rfl ?_
  rotate_left
  rw [show decide ((u, v).2 = 0) = true from decide_eq_true cv]
  refine q_loadAggB rfl rfl tabOk rfl rfl ‹_› (by rfl) ?_
  refine q_call rfl rfl rfl (fun w' hw' => (wChk u w').mono fun u w'' z => ⟨z.1, hw'.tr z.2⟩) ?_
  rw [chk_y (hpo cv)]
  refine qA rfl ?_
  all_goals
    refine q_end fun wg fg => ?_
    have kpg := kpf.fr0 fg
    have kag := kaf.fr0 fg
    have hfg := hff.tr fg
    clear kpf kaf kxf kyf
    have hc5 : (c1, c2, c3, c4, c5).2.2.2.2 = c5 := rfl
    repeat (first | refine sA [] rfl ?_ | refine sB [] rfl ?_ | refine sC [] rfl ?_ | refine sD [] rfl ?_ | refine ev_load rfl rfl tabOk rfl rfl ‹_› ?_ | refine ev_loadB rfl rfl tabOk rfl rfl ‹_› (by rfl) ?_ | refine ev_loadAggB rfl rfl tabOk rfl rfl ‹_› (by rfl) ?_ | refine ev_arith rfl rfl rfl rfl rfl (by simp only [lowK, hiK]; omega) ?_ | refine ev_rem rfl rfl rfl rfl (by omega) (by omega) ?_ | refine ev_quo rfl rfl rfl rfl (by omega) (by omega) (by simp only [hiK]; omega) ?_ | refine ev_index rfl rfl tabOk rfl rfl rfl (by omega) (by omega) ?_ | refine ev_indexA rfl rfl tabOk rfl rfl rfl (by omega) (by omega) rfl ?_ | refine ev_convB rfl rfl tabOk rfl rfl rfl rfl ?_ | refine ev_conv rfl rfl tabOk rfl rfl rfl (by simp only [lowK, hiK]; omega) ?_)
    by_cases e5 : c5 = 0
    rotate_left
    · rw [show decide (¬ (c1, c2, c3, c4, c5).2.2.2.2 = 0) = true from decide_eq_true e5]
      repeat (first | refine sA [] rfl ?_ | refine sB [] rfl ?_ | refine sC [] rfl ?_ | refine sD [] rfl ?_ | refine ev_load rfl rfl tabOk rfl rfl ‹_› ?_ | refine ev_loadB rfl rfl tabOk rfl rfl ‹_› (by rfl) ?_ | refine ev_loadAggB rfl rfl tabOk rfl rfl ‹_› (by rfl) ?_ | refine ev_arith rfl rfl rfl rfl rfl (by simp only [lowK, hiK]; omega) ?_ | refine ev_rem rfl rfl rfl rfl (by omega) (by omega) ?_ | refine ev_quo rfl rfl rfl rfl (by omega) (by omega) (by simp only [hiK]; omega) ?_ | refine ev_index rfl rfl tabOk rfl rfl rfl (by omega) (by omega) ?_ | refine ev_indexA rfl rfl tabOk rfl rfl rfl (by omega) (by omega) rfl ?_ | refine ev_convB rfl rfl tabOk rfl rfl rfl rfl ?_ | refine ev_conv rfl rfl tabOk rfl rfl rfl (by simp only [lowK, hiK]; omega) ?_)
      exact ret1 (.inr rfl) rfl rfl ⟨rfl, hfg⟩
    rw [show decide (¬ (c1, c2, c3, c4, c5).2.2.2.2 = 0) = false from decide_eq_false fun h => h e5]
    repeat (first | refine sA [] rfl ?_ | refine sB [] rfl ?_ | refine sC [] rfl ?_ | refine sD [] rfl ?_ | refine ev_load rfl rfl tabOk rfl rfl ‹_› ?_ | refine ev_loadB rfl rfl tabOk rfl rfl ‹_› (by rfl) ?_ | refine ev_loadAggB rfl rfl tabOk rfl rfl ‹_› (by rfl) ?_ | refine ev_arith rfl rfl rfl rfl rfl (by simp only [lowK, hiK]; omega) ?_ | refine ev_rem rfl rfl rfl rfl (by omega) (by omega) ?_ | refine ev_quo rfl rfl rfl rfl (by omega) (by omega) (by simp only [hiK]; omega) ?_ | refine ev_index rfl rfl tabOk rfl rfl rfl (by omega) (by omega) ?_ | refine ev_indexA rfl rfl tabOk rfl rfl rfl (by omega) (by omega) rfl ?_ | refine ev_convB rfl rfl tabOk rfl rfl rfl rfl ?_ | refine ev_conv rfl rfl tabOk rfl rfl rfl (by simp only [lowK, hiK]; omega) ?_)
    by_cases e1 : n < 1
    · rw [show decide (n < 1) = true from decide_eq_true e1]
      repeat (first | refine sA [] rfl ?_ | refine sB [] rfl ?_ | refine sC [] rfl ?_ | refine sD [] rfl ?_ | refine ev_load rfl rfl tabOk rfl rfl ‹_› ?_ | refine ev_loadB rfl rfl tabOk rfl rfl ‹_› (by rfl) ?_ | refine ev_loadAggB rfl rfl tabOk rfl rfl ‹_› (by rfl) ?_ | refine ev_arith rfl rfl rfl rfl rfl (by simp only [lowK, hiK]; omega) ?_ | refine ev_rem rfl rfl rfl rfl (by omega) (by omega) ?_ | refine ev_quo rfl rfl rfl rfl (by omega) (by omega) (by simp only [hiK]; omega) ?_ | refine ev_index rfl rfl tabOk rfl rfl rfl (by omega) (by omega) ?_ | refine ev_indexA rfl rfl tabOk rfl rfl rfl (by omega) (by omega) rfl ?_ | refine ev_convB rfl rfl tabOk rfl rfl rfl rfl ?_ | refine ev_conv rfl rfl tabOk rfl rfl rfl (by simp only [lowK, hiK]; omega) ?_)
      exact ret1 (.inr rfl) rfl rfl ⟨rfl, hfg⟩
    rw [show decide (n < 1) = false from decide_eq_false e1]
    obtain ⟨l1, l2, l3, l4⟩ := hl e5 (by omega)
    repeat (first | refine sA [] rfl ?_ | refine sB [] rfl ?_ | refine sC [] rfl ?_ | refine sD [] rfl ?_ | refine ev_load rfl rfl tabOk rfl rfl ‹_› ?_ | refine ev_loadB rfl rfl tabOk rfl rfl ‹_› (by rfl) ?_ | refine ev_loadAggB rfl rfl tabOk rfl rfl ‹_› (by rfl) ?_ | refine ev_arith rfl rfl rfl rfl rfl (by simp only [lowK, hiK]; omega) ?_ | refine ev_rem rfl rfl rfl rfl (by omega) (by omega) ?_ | refine ev_quo rfl rfl rfl rfl (by omega) (by omega) (by simp only [hiK]; omega) ?_ | refine ev_index rfl rfl tabOk rfl rfl rfl (by omega) (by omega) ?_ | refine ev_indexA rfl rfl tabOk rfl rfl rfl (by omega) (by omega) rfl ?_ | refine ev_convB rfl rfl tabOk rfl rfl rfl rfl ?_ | refine ev_conv rfl rfl tabOk rfl rfl rfl (by simp only [lowK, hiK]; omega) ?_)
    refine ev_call rfl rfl rfl (wCosts s (n - 1) wg) ?_
    rintro r wh ⟨rfl, fh⟩
    have kah := kag.fr0 fh
    have hfh := hfg.tr fh
    repeat (first | refine sA [] rfl ?_ | refine sB [] rfl ?_ | refine sC [] rfl ?_ | refine sD [] rfl ?_ | refine ev_load rfl rfl tabOk rfl rfl ‹_› ?_ | refine ev_loadB rfl rfl tabOk rfl rfl ‹_› (by rfl) ?_ | refine ev_loadAggB rfl rfl tabOk rfl rfl ‹_› (by rfl) ?_ | refine ev_arith rfl rfl rfl rfl rfl (by simp only [lowK, hiK]; omega) ?_ | refine ev_rem rfl rfl rfl rfl (by omega) (by omega) ?_ | refine ev_quo rfl rfl rfl rfl (by omega) (by omega) (by simp only [hiK]; omega) ?_ | refine ev_index rfl rfl tabOk rfl rfl rfl (by omega) (by omega) ?_ | refine ev_indexA rfl rfl tabOk rfl rfl rfl (by omega) (by omega) rfl ?_ | refine ev_convB rfl rfl tabOk rfl rfl rfl rfl ?_ | refine ev_conv rfl rfl tabOk rfl rfl rfl (by simp only [lowK, hiK]; omega) ?_)
    refine ev_alloc rfl rfl inf78 (fun z wi hz kz fi => ?_)
    refine ev_storeAgg tabOk rfl rfl rfl rfl rfl rfl kz rfl (fun wj kzj fj => ?_)
    have hhj : Fr no wh wj := fi.trans fj fun y hy e => by have : y = z := e; omega
    have kaj := kah.fr0 hhj
    have hfj := hfh.tr hhj
    clear kag kah kz
    rw [l1]
    repeat (first | refine sA [] rfl ?_ | refine sB [] rfl ?_ | refine sC [] rfl ?_ | refine sD [] rfl ?_ | refine ev_load rfl rfl tabOk rfl rfl ‹_› ?_ | refine ev_loadB rfl rfl tabOk rfl rfl ‹_› (by rfl) ?_ | refine ev_loadAggB rfl rfl tabOk rfl rfl ‹_› (by rfl) ?_ | refine ev_arith rfl rfl rfl rfl rfl (by simp only [lowK, hiK]; omega) ?_ | refine ev_rem rfl rfl rfl rfl (by omega) (by omega) ?_ | refine ev_quo rfl rfl rfl rfl (by omega) (by omega) (by simp only [hiK]; omega) ?_ | refine ev_index rfl rfl tabOk rfl rfl rfl (by omega) (by omega) ?_ | refine ev_indexA rfl rfl tabOk rfl rfl rfl (by omega) (by omega) rfl ?_ | refine ev_convB rfl rfl tabOk rfl rfl rfl rfl ?_ | refine ev_conv rfl rfl tabOk rfl rfl rfl (by simp only [lowK, hiK]; omega) ?_)
    rw [show decide ((costQ s (n - 1)).2.1 < (c1, c2, c3, c4, c5).2.1) = true from decide_eq_true l2]
    repeat (first | refine sA [] rfl ?_ | refine sB [] rfl ?_ | refine sC [] rfl ?_ | refine sD [] rfl ?_ | refine ev_load rfl rfl tabOk rfl rfl ‹_› ?_ | refine ev_loadB rfl rfl tabOk rfl rfl ‹_› (by rfl) ?_ | refine ev_loadAggB rfl rfl tabOk rfl rfl ‹_› (by rfl) ?_ | refine ev_arith rfl rfl rfl rfl rfl (by simp only [lowK, hiK]; omega) ?_ | refine ev_rem rfl rfl rfl rfl (by omega) (by omega) ?_ | refine ev_quo rfl rfl rfl rfl (by omega) (by omega) (by simp only [hiK]; omega) ?_ | refine ev_index rfl rfl tabOk rfl rfl rfl (by omega) (by omega) ?_ | refine ev_indexA rfl rfl tabOk rfl rfl rfl (by omega) (by omega) rfl ?_ | refine ev_convB rfl rfl tabOk rfl rfl rfl rfl ?_ | refine ev_conv rfl rfl tabOk rfl rfl rfl (by simp only [lowK, hiK]; omega) ?_)
    rw [show decide ((costQ s (n - 1)).2.2.1 < (c1, c2, c3, c4, c5).2.2.1) = true from decide_eq_true l3]
    repeat (first | refine sA [] rfl ?_ | refine sB [] rfl ?_ | refine sC [] rfl ?_ | refine sD [] rfl ?_ | refine ev_load rfl rfl tabOk rfl rfl ‹_› ?_ | refine ev_loadB rfl rfl tabOk rfl rfl ‹_› (by rfl) ?_ | refine ev_loadAggB rfl rfl tabOk rfl rfl ‹_› (by rfl) ?_ | refine ev_arith rfl rfl rfl rfl rfl (by simp only [lowK, hiK]; omega) ?_ | refine ev_rem rfl rfl rfl rfl (by omega) (by omega) ?_ | refine ev_quo rfl rfl rfl rfl (by omega) (by omega) (by simp only [hiK]; omega) ?_ | refine ev_index rfl rfl tabOk rfl rfl rfl (by omega) (by omega) ?_ | refine ev_indexA rfl rfl tabOk rfl rfl rfl (by omega) (by omega) rfl ?_ | refine ev_convB rfl rfl tabOk rfl rfl rfl rfl ?_ | refine ev_conv rfl rfl tabOk rfl rfl rfl (by simp only [lowK, hiK]; omega) ?_)
    rw [show decide ((costQ s (n - 1)).1 = (c1, c2, c3, c4, c5).1) = true from decide_eq_true l4]
    repeat (first | refine sA [] rfl ?_ | refine sB [] rfl ?_ | refine sC [] rfl ?_ | refine sD [] rfl ?_ | refine ev_load rfl rfl tabOk rfl rfl ‹_› ?_ | refine ev_loadB rfl rfl tabOk rfl rfl ‹_› (by rfl) ?_ | refine ev_loadAggB rfl rfl tabOk rfl rfl ‹_› (by rfl) ?_ | refine ev_arith rfl rfl rfl rfl rfl (by simp only [lowK, hiK]; omega) ?_ | refine ev_rem rfl rfl rfl rfl (by omega) (by omega) ?_ | refine ev_quo rfl rfl rfl rfl (by omega) (by omega) (by simp only [hiK]; omega) ?_ | refine ev_index rfl rfl tabOk rfl rfl rfl (by omega) (by omega) ?_ | refine ev_indexA rfl rfl tabOk rfl rfl rfl (by omega) (by omega) rfl ?_ | refine ev_convB rfl rfl tabOk rfl rfl rfl rfl ?_ | refine ev_conv rfl rfl tabOk rfl rfl rfl (by simp only [lowK, hiK]; omega) ?_)
    exact ret1 (.inr rfl) rfl rfl ⟨rfl, hfj⟩
end Go.Wk.YtfgllkflnkolhaaDoor
