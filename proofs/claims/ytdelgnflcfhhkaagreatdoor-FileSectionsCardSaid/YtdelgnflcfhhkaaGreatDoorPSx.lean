/-
  Taken for this seat out of ShU.
-/
import Derived.Test.YtdelgnflcfhhkaaGreatDoorPShR
import Derived.Test.YtdelgnflcfhhkaaGreatDoorPVo
set_option linter.unusedVariables false
namespace Go.Wk.YtdelgnflcfhhkaaGreatDoor
open Go Go.Wk Go.Proofs
end Go.Wk.YtdelgnflcfhhkaaGreatDoor
namespace Go.Wk.YtdelgnflcfhhkaaGreatDoor
open Go Go.Wk Go.Proofs
theorem shpR_neq (x y : Shp) (w : World) : (binOp .neq 50 (shpV x) (shpV y)).run Tryz.prog w = .ok (.bool (!decide (x = y))) w := by
  obtain ⟨a, b, c, d, e, f⟩ := x
  obtain ⟨a', b', c', d', e', f'⟩ := y
  have u3 := Tryz.underlying3
  have a3 := Tryz.isAgg3
  have z3 := Tryz.sizeOf3
  have hS : Tryz.prog.underlying 50 = some (.struct (Tryz.prog.fieldsOf 50)) := by kernel_rfl
  rw [run_neq_struct, show (10000 : Nat) = 9999 + 1 from rfl, run_equalIn_agg w 9999 50 _ _ hS (by kernel_rfl)]
  simp only [Program.fieldsOf, Tryz.underlying50]
  go_simp
  by_cases h1 : a = a'
  case neg => simp [h1]
  by_cases h2 : b = b'
  case neg => simp [h1, h2]
  by_cases h3 : c = c'
  case neg => simp [h1, h2, h3]
  by_cases h4 : d = d'
  case neg => simp [h1, h2, h3, h4]
  by_cases h5 : e = e'
  case neg => simp [h1, h2, h3, h4, h5]
  by_cases h6 : f = f' <;> simp [h1, h2, h3, h4, h5, h6]
theorem y_shpR_neq {C : World → Prop} {n : Nat} {env : Env} {d : Option Nat} {ty t' : TypeId} {ps : String} {af : Array Edge} {g : Option (Nat × Bool)} {x y : Operand} {m m' : Shp}
    (hx : ev env x = some (shpV m)) (hy : ev env y = some (shpV m')) : Yv Tryz.prog n env C ⟨d, .binOp .neq 50 x y t', ty, ps, af, g⟩ (.bool (!decide (m = m'))) := fun a hA w _ => by
  simp only [execOp, hA.ev hx, hA.ev hy]
  refine run_bind (a := Value.bool (!decide (m = m'))) (w' := w) ?_
  refine (run_bind (a := ()) (w' := w) (run_eqGuard_agg _ _ _ _ _ _ _ (by kernel_rfl))).trans ?_
  exact shpR_neq m m' w
end Go.Wk.YtdelgnflcfhhkaaGreatDoor
namespace Go.Wk.YtdelgnflcfhhkaaGreatDoor
open Go Go.Wk Go.Proofs
theorem neq_same (x : Int) : decide (¬ x = x) = false := decide_eq_false fun h => h rfl
end Go.Wk.YtdelgnflcfhhkaaGreatDoor
namespace Go.Wk.YtdelgnflcfhhkaaGreatDoor
open Go Go.Wk Go.Proofs
/-- whether, as a bool -/
noncomputable def eqB (p : Prop) : Bool := @decide p (Classical.propDecidable p)
theorem eqB_t {p : Prop} (h : p) : eqB p = true := @decide_eq_true p (Classical.propDecidable p) h
theorem eqB_f {p : Prop} (h : ¬ p) : eqB p = false := @decide_eq_false p (Classical.propDecidable p) h
theorem eqB_iff {p : Prop} : eqB p = true ↔ p := ⟨@of_decide_eq_true p (Classical.propDecidable p), eqB_t⟩
theorem i8_at {w : World} {A : Option Addr} {xs : List Int8} (h : Cs w A (xs.map i8v)) {y : Nat} (hy : y < xs.length) : ∃ g o, A = some ⟨g, o, none⟩ ∧ w.cell? ⟨g, o + (y : Int).toNat * 1, none⟩ = some (.int .i8 xs[y].toInt) := by
  obtain ⟨g, o, e, hc⟩ := h y (i8v xs[y]) (by simp [List.getElem?_eq_getElem hy])
  exact ⟨g, o, e, by simpa using hc⟩
set_option maxHeartbeats 2000000 in
theorem refRows (r u : Rw) (w : World) (hr : r.At w) (hu : u.At w) (hl : r.xs.length ≤ 1000000000) :
    CallsF Tryz.prog 49 [r.v, u.v] w fun z w' => z = .bool (decide (r.xs = u.xs)) ∧ Fr no w w' := by
  obtain ⟨A, c, xs⟩ := r
  obtain ⟨B, d, ys⟩ := u
  have hr : Cs w A (xs.map i8v) := hr
  have hu : Cs w B (ys.map i8v) := hu
  have hl : xs.length ≤ 1000000000 := hl
  refine callsF Tryz.func49 rfl rfl (by decide) rfl ?_
  refine sC [] rfl ?_; refine sC [] rfl ?_; refine sC [] rfl ?_; refine sD [] rfl ?_
  refine ev_condD rfl (fun c1 => ?_) (fun c1 => ?_)
  · refine sA [] rfl ?_
    exact ret1 (.inr rfl) rfl rfl ⟨by rw [decide_eq_false (fun h => c1 (by rw [show xs = ys from h]))], Fr.refl _ _⟩
  have hlen : xs.length = ys.length := by have c1 : (xs.length : Int) = ys.length := Decidable.not_not.1 c1; omega
  refine sA [] rfl ?_
  refine ev_loop (α := Nat) (fun y => [(0, .slice A xs.length c), (1, .slice B ys.length d), (12, i64 xs.length), (13, i64 y)]) (fun y w' => y ≤ xs.length ∧ Fr no w w' ∧ ∀ i (h : i < xs.length), i < y → xs[i] = ys[i]'(by omega)) (fun y => xs.length - y) 0 ⟨rfl, rfl, rfl, rfl, trivial⟩ ⟨Nat.zero_le _, Fr.refl _ _, fun i _ h => absurd h (Nat.not_lt_zero _)⟩ ?_
  rintro y w1 ⟨hy, hF, hz⟩
  refine sC [] rfl ?_; refine sD [] rfl ?_
  refine ev_condD rfl (fun c2 => ?_) (fun c2 => ?_)
  · have h1 : y < xs.length := by omega
    have h2 : y < ys.length := by omega
    obtain ⟨g, o, rfl, hcx⟩ := i8_at (hr.fr0 hF) h1
    obtain ⟨g2, o2, rfl, hcy⟩ := i8_at (hu.fr0 hF) h2
    obtain ⟨a, ha⟩ : ∃ a, a = xs[y].toInt := ⟨_, rfl⟩
    obtain ⟨b, hb⟩ : ∃ b, b = ys[y].toInt := ⟨_, rfl⟩
    rw [← ha] at hcx
    rw [← hb] at hcy
    refine sA [] rfl ?_
    refine ev_draw mixed (by kernel_rfl) ?_
    refine qA rfl ?_
    refine q_indexAddr rfl rfl tabOk rfl rfl rfl (by omega) (by omega) ?_
    refine q_load rfl rfl tabOk rfl rfl (fun _ hf => cell_fr (by assumption) hf id) ?_; refine qA rfl ?_
    refine q_indexAddr rfl rfl tabOk rfl rfl rfl (by omega) (by omega) ?_
    refine q_load rfl rfl tabOk rfl rfl (fun _ hf => cell_fr (by assumption) hf id) ?_; refine qA rfl ?_
    refine q_end fun w2 f2 => ?_
    refine ev_condD rfl (fun c3 => ?_) (fun c3 => ?_)
    · refine sA [] rfl ?_
      exact ret1 (.inr rfl) rfl rfl ⟨by
        rw [decide_eq_false fun h => c3 ?_]
        have h : xs = ys := h
        rw [ha, hb]; subst h; rfl, hF.tr f2⟩
    · have c3 := Decidable.not_not.1 c3
      refine sA [] rfl ?_; refine ev_arith rfl rfl rfl rfl rfl (by simp only [lowK, hiK]; omega) ?_; refine sA [] rfl ?_
      refine ev_next (y + 1) (by omega) ⟨by omega, hF.tr f2, fun i h hi => ?_⟩ ⟨rfl, rfl, rfl, by rw [show ((y + 1 : Nat) : Int) = (y : Int) + 1 by omega]; rfl, trivial⟩
      by_cases e : i = y
      · subst e; exact Int8.toInt_inj.1 (by rw [← ha, ← hb]; exact c3)
      · exact hz i h (by omega)
  · obtain rfl : y = xs.length := by omega
    refine sA [] rfl ?_
    exact ret1 (.inr rfl) rfl rfl ⟨by rw [decide_eq_true (show xs = ys from List.ext_getElem hlen fun i h _ => hz i h h)], hF⟩
/-- rows that are not too long -/
def Bk.Sm (b : Bk Rw) : Prop := ∀ r ∈ b.rows, r.xs.length ≤ 1000000000
set_option maxHeartbeats 8000000 in
theorem refBlocks (x y : Bk Rw) (w : World) (hx : x.At w) (hy : y.At w) (hl : x.Sm) :
    CallsF Tryz.prog 48 [bkV x, bkV y] w fun z w' => z = .bool (eqB (pBk x = pBk y)) ∧ Fr no w w' := by
  refine callsF Tryz.func48 rfl rfl (by decide) rfl ?_
  refine sA [] rfl ?_
  refine ev_box rfl rfl rfl fun p w1 hp kp f1 => ?_
  refine ev_box rfl rfl rfl fun q w2 hq kq f2 => ?_
  have kp2 : Blk w2 p (bkC x) _ := kp.fr0 f2
  have kq2 : Blk w2 q (bkC y) _ := kq
  have hF := f1.tr f2
  clear kp kq
  refine sA [] rfl ?_; refine ev_loadB rfl rfl tabOk rfl rfl ‹_› (by rfl) ?_; refine sA [] rfl ?_; refine ev_loadB rfl rfl tabOk rfl rfl ‹_› (by rfl) ?_; refine sD [] rfl ?_; refine sD [] rfl ?_
  by_cases i_qs : x.qs = y.qs
  rotate_left
  · rw [show decide (¬ x.qs = y.qs) = true from decide_eq_true i_qs]
    refine sA [] rfl ?_
    exact ret1 (.inr rfl) rfl rfl ⟨by rw [eqB_f fun h : pBk x = pBk y => i_qs (congrArg (Bk.qs (ρ := List Int8)) h)], hF⟩
  rw [show decide (¬ x.qs = y.qs) = false from decide_eq_false fun h => h i_qs]
  refine sA [] rfl ?_; refine ev_loadB rfl rfl tabOk rfl rfl ‹_› (by rfl) ?_; refine sA [] rfl ?_; refine ev_loadB rfl rfl tabOk rfl rfl ‹_› (by rfl) ?_; refine sD [] rfl ?_; refine sD [] rfl ?_; refine sD [] rfl ?_
  by_cases i_ks : x.ks = y.ks
  rotate_left
  · rw [show decide (¬ x.ks = y.ks) = true from decide_eq_true i_ks]
    refine sA [] rfl ?_
    exact ret1 (.inr rfl) rfl rfl ⟨by rw [eqB_f fun h : pBk x = pBk y => i_ks (congrArg (Bk.ks (ρ := List Int8)) h)], hF⟩
  rw [show decide (¬ x.ks = y.ks) = false from decide_eq_false fun h => h i_ks]
  refine sA [] rfl ?_; refine ev_loadB rfl rfl tabOk rfl rfl ‹_› (by rfl) ?_; refine sA [] rfl ?_; refine ev_loadB rfl rfl tabOk rfl rfl ‹_› (by rfl) ?_; refine sD [] rfl ?_; refine sD [] rfl ?_; refine sD [] rfl ?_
  by_cases i_vs : x.vs = y.vs
  rotate_left
  · rw [show decide (¬ x.vs = y.vs) = true from decide_eq_true i_vs]
    refine sA [] rfl ?_
    exact ret1 (.inr rfl) rfl rfl ⟨by rw [eqB_f fun h : pBk x = pBk y => i_vs (congrArg (Bk.vs (ρ := List Int8)) h)], hF⟩
  rw [show decide (¬ x.vs = y.vs) = false from decide_eq_false fun h => h i_vs]
  refine sA [] rfl ?_; refine ev_loadB rfl rfl tabOk rfl rfl ‹_› (by rfl) ?_; refine sA [] rfl ?_; refine ev_loadB rfl rfl tabOk rfl rfl ‹_› (by rfl) ?_; refine sD [] rfl ?_; refine sD [] rfl ?_; refine sD [] rfl ?_
  by_cases i_os : x.os = y.os
  rotate_left
  · rw [show decide (¬ x.os = y.os) = true from decide_eq_true i_os]
    refine sA [] rfl ?_
    exact ret1 (.inr rfl) rfl rfl ⟨by rw [eqB_f fun h : pBk x = pBk y => i_os (congrArg (Bk.os (ρ := List Int8)) h)], hF⟩
  rw [show decide (¬ x.os = y.os) = false from decide_eq_false fun h => h i_os]
  refine sA [] rfl ?_; refine ev_loadB rfl rfl tabOk rfl rfl ‹_› (by rfl) ?_; refine sA [] rfl ?_; refine ev_loadB rfl rfl tabOk rfl rfl ‹_› (by rfl) ?_; refine sD [] rfl ?_; refine sD [] rfl ?_; refine sD [] rfl ?_
  by_cases i_ss : x.ss = y.ss
  rotate_left
  · rw [show decide (¬ x.ss = y.ss) = true from decide_eq_true i_ss]
    refine sA [] rfl ?_
    exact ret1 (.inr rfl) rfl rfl ⟨by rw [eqB_f fun h : pBk x = pBk y => i_ss (congrArg (Bk.ss (ρ := List Int8)) h)], hF⟩
  rw [show decide (¬ x.ss = y.ss) = false from decide_eq_false fun h => h i_ss]
  refine sA [] rfl ?_; refine ev_loadB rfl rfl tabOk rfl rfl ‹_› (by rfl) ?_; refine sA [] rfl ?_; refine ev_loadB rfl rfl tabOk rfl rfl ‹_› (by rfl) ?_; refine sD [] rfl ?_; refine sD [] rfl ?_; refine sD [] rfl ?_
  by_cases i_gas : x.gas = y.gas
  rotate_left
  · rw [show decide (¬ x.gas = y.gas) = true from decide_eq_true i_gas]
    refine sA [] rfl ?_
    exact ret1 (.inr rfl) rfl rfl ⟨by rw [eqB_f fun h : pBk x = pBk y => i_gas (congrArg (Bk.gas (ρ := List Int8)) h)], hF⟩
  rw [show decide (¬ x.gas = y.gas) = false from decide_eq_false fun h => h i_gas]
  refine sA [] rfl ?_; refine ev_loadB rfl rfl tabOk rfl rfl ‹_› (by rfl) ?_; refine sA [] rfl ?_; refine ev_loadB rfl rfl tabOk rfl rfl ‹_› (by rfl) ?_; refine sD [] rfl ?_; refine sD [] rfl ?_; refine sD [] rfl ?_
  by_cases i_ups : x.ups = y.ups
  rotate_left
  · rw [show decide (¬ x.ups = y.ups) = true from decide_eq_true i_ups]
    refine sA [] rfl ?_
    exact ret1 (.inr rfl) rfl rfl ⟨by rw [eqB_f fun h : pBk x = pBk y => i_ups (congrArg (Bk.ups (ρ := List Int8)) h)], hF⟩
  rw [show decide (¬ x.ups = y.ups) = false from decide_eq_false fun h => h i_ups]
  refine sA [] rfl ?_; refine ev_loadB rfl rfl tabOk rfl rfl ‹_› (by rfl) ?_; refine sA [] rfl ?_; refine ev_loadB rfl rfl tabOk rfl rfl ‹_› (by rfl) ?_; refine sD [] rfl ?_; refine sD [] rfl ?_; refine sD [] rfl ?_
  by_cases i_dns : x.dns = y.dns
  rotate_left
  · rw [show decide (¬ x.dns = y.dns) = true from decide_eq_true i_dns]
    refine sA [] rfl ?_
    exact ret1 (.inr rfl) rfl rfl ⟨by rw [eqB_f fun h : pBk x = pBk y => i_dns (congrArg (Bk.dns (ρ := List Int8)) h)], hF⟩
  rw [show decide (¬ x.dns = y.dns) = false from decide_eq_false fun h => h i_dns]
  refine sA [] rfl ?_; refine ev_loadB rfl rfl tabOk rfl rfl ‹_› (by rfl) ?_; refine sA [] rfl ?_; refine ev_loadB rfl rfl tabOk rfl rfl ‹_› (by rfl) ?_
  refine ev_call rfl rfl rfl (refRows x.g1 y.g1 _ ((hx _ (by simp)).fr0 hF) ((hy _ (by simp)).fr0 hF) (hl _ (by simp))) ?_
  rintro z0 v0 ⟨rfl, e0⟩
  have kp3 := kp2.fr0 e0
  have kq3 := kq2.fr0 e0
  have hF := hF.tr e0
  clear kp2 kq2
  by_cases r_g1 : x.g1.xs = y.g1.xs
  rotate_left
  · rw [decide_eq_false r_g1]
    refine sA [] rfl ?_
    exact ret1 (.inr rfl) rfl rfl ⟨by rw [eqB_f fun h : pBk x = pBk y => r_g1 (congrArg (Bk.g1 (ρ := List Int8)) h)], hF⟩
  rw [decide_eq_true r_g1]
  refine sA [] rfl ?_; refine ev_loadB rfl rfl tabOk rfl rfl ‹_› (by rfl) ?_; refine sA [] rfl ?_; refine ev_loadB rfl rfl tabOk rfl rfl ‹_› (by rfl) ?_
  refine ev_call rfl rfl rfl (refRows x.q y.q _ ((hx _ (by simp)).fr0 hF) ((hy _ (by simp)).fr0 hF) (hl _ (by simp))) ?_
  rintro z1 v1 ⟨rfl, e1⟩
  have kp4 := kp3.fr0 e1
  have kq4 := kq3.fr0 e1
  have hF := hF.tr e1
  clear kp3 kq3
  by_cases r_q : x.q.xs = y.q.xs
  rotate_left
  · rw [decide_eq_false r_q]
    refine sA [] rfl ?_
    exact ret1 (.inr rfl) rfl rfl ⟨by rw [eqB_f fun h : pBk x = pBk y => r_q (congrArg (Bk.q (ρ := List Int8)) h)], hF⟩
  rw [decide_eq_true r_q]
  refine sA [] rfl ?_; refine ev_loadB rfl rfl tabOk rfl rfl ‹_› (by rfl) ?_; refine sA [] rfl ?_; refine ev_loadB rfl rfl tabOk rfl rfl ‹_› (by rfl) ?_
  refine ev_call rfl rfl rfl (refRows x.k y.k _ ((hx _ (by simp)).fr0 hF) ((hy _ (by simp)).fr0 hF) (hl _ (by simp))) ?_
  rintro z2 v2 ⟨rfl, e2⟩
  have kp5 := kp4.fr0 e2
  have kq5 := kq4.fr0 e2
  have hF := hF.tr e2
  clear kp4 kq4
  by_cases r_k : x.k.xs = y.k.xs
  rotate_left
  · rw [decide_eq_false r_k]
    refine sA [] rfl ?_
    exact ret1 (.inr rfl) rfl rfl ⟨by rw [eqB_f fun h : pBk x = pBk y => r_k (congrArg (Bk.k (ρ := List Int8)) h)], hF⟩
  rw [decide_eq_true r_k]
  refine sA [] rfl ?_; refine ev_loadB rfl rfl tabOk rfl rfl ‹_› (by rfl) ?_; refine sA [] rfl ?_; refine ev_loadB rfl rfl tabOk rfl rfl ‹_› (by rfl) ?_
  refine ev_call rfl rfl rfl (refRows x.v y.v _ ((hx _ (by simp)).fr0 hF) ((hy _ (by simp)).fr0 hF) (hl _ (by simp))) ?_
  rintro z3 v3 ⟨rfl, e3⟩
  have kp6 := kp5.fr0 e3
  have kq6 := kq5.fr0 e3
  have hF := hF.tr e3
  clear kp5 kq5
  by_cases r_v : x.v.xs = y.v.xs
  rotate_left
  · rw [decide_eq_false r_v]
    refine sA [] rfl ?_
    exact ret1 (.inr rfl) rfl rfl ⟨by rw [eqB_f fun h : pBk x = pBk y => r_v (congrArg (Bk.v (ρ := List Int8)) h)], hF⟩
  rw [decide_eq_true r_v]
  refine sA [] rfl ?_; refine ev_loadB rfl rfl tabOk rfl rfl ‹_› (by rfl) ?_; refine sA [] rfl ?_; refine ev_loadB rfl rfl tabOk rfl rfl ‹_› (by rfl) ?_
  refine ev_call rfl rfl rfl (refRows x.o y.o _ ((hx _ (by simp)).fr0 hF) ((hy _ (by simp)).fr0 hF) (hl _ (by simp))) ?_
  rintro z4 v4 ⟨rfl, e4⟩
  have kp7 := kp6.fr0 e4
  have kq7 := kq6.fr0 e4
  have hF := hF.tr e4
  clear kp6 kq6
  by_cases r_o : x.o.xs = y.o.xs
  rotate_left
  · rw [decide_eq_false r_o]
    refine sA [] rfl ?_
    exact ret1 (.inr rfl) rfl rfl ⟨by rw [eqB_f fun h : pBk x = pBk y => r_o (congrArg (Bk.o (ρ := List Int8)) h)], hF⟩
  rw [decide_eq_true r_o]
  refine sA [] rfl ?_; refine ev_loadB rfl rfl tabOk rfl rfl ‹_› (by rfl) ?_; refine sA [] rfl ?_; refine ev_loadB rfl rfl tabOk rfl rfl ‹_› (by rfl) ?_
  refine ev_call rfl rfl rfl (refRows x.g2 y.g2 _ ((hx _ (by simp)).fr0 hF) ((hy _ (by simp)).fr0 hF) (hl _ (by simp))) ?_
  rintro z5 v5 ⟨rfl, e5⟩
  have kp8 := kp7.fr0 e5
  have kq8 := kq7.fr0 e5
  have hF := hF.tr e5
  clear kp7 kq7
  by_cases r_g2 : x.g2.xs = y.g2.xs
  rotate_left
  · rw [decide_eq_false r_g2]
    refine sA [] rfl ?_
    exact ret1 (.inr rfl) rfl rfl ⟨by rw [eqB_f fun h : pBk x = pBk y => r_g2 (congrArg (Bk.g2 (ρ := List Int8)) h)], hF⟩
  rw [decide_eq_true r_g2]
  refine sA [] rfl ?_; refine ev_loadB rfl rfl tabOk rfl rfl ‹_› (by rfl) ?_; refine sA [] rfl ?_; refine ev_loadB rfl rfl tabOk rfl rfl ‹_› (by rfl) ?_
  refine ev_call rfl rfl rfl (refRows x.ga y.ga _ ((hx _ (by simp)).fr0 hF) ((hy _ (by simp)).fr0 hF) (hl _ (by simp))) ?_
  rintro z6 v6 ⟨rfl, e6⟩
  have kp9 := kp8.fr0 e6
  have kq9 := kq8.fr0 e6
  have hF := hF.tr e6
  clear kp8 kq8
  by_cases r_ga : x.ga.xs = y.ga.xs
  rotate_left
  · rw [decide_eq_false r_ga]
    refine sA [] rfl ?_
    exact ret1 (.inr rfl) rfl rfl ⟨by rw [eqB_f fun h : pBk x = pBk y => r_ga (congrArg (Bk.ga (ρ := List Int8)) h)], hF⟩
  rw [decide_eq_true r_ga]
  refine sA [] rfl ?_; refine ev_loadB rfl rfl tabOk rfl rfl ‹_› (by rfl) ?_; refine sA [] rfl ?_; refine ev_loadB rfl rfl tabOk rfl rfl ‹_› (by rfl) ?_
  refine ev_call rfl rfl rfl (refRows x.up y.up _ ((hx _ (by simp)).fr0 hF) ((hy _ (by simp)).fr0 hF) (hl _ (by simp))) ?_
  rintro z7 v7 ⟨rfl, e7⟩
  have kp10 := kp9.fr0 e7
  have kq10 := kq9.fr0 e7
  have hF := hF.tr e7
  clear kp9 kq9
  by_cases r_up : x.up.xs = y.up.xs
  rotate_left
  · rw [decide_eq_false r_up]
    refine sA [] rfl ?_
    exact ret1 (.inr rfl) rfl rfl ⟨by rw [eqB_f fun h : pBk x = pBk y => r_up (congrArg (Bk.up (ρ := List Int8)) h)], hF⟩
  rw [decide_eq_true r_up]
  refine sA [] rfl ?_; refine ev_loadB rfl rfl tabOk rfl rfl ‹_› (by rfl) ?_; refine sA [] rfl ?_; refine ev_loadB rfl rfl tabOk rfl rfl ‹_› (by rfl) ?_
  refine ev_call rfl rfl rfl (refRows x.dn y.dn _ ((hx _ (by simp)).fr0 hF) ((hy _ (by simp)).fr0 hF) (hl _ (by simp))) ?_
  rintro z8 v8 ⟨rfl, e8⟩
  have kp11 := kp10.fr0 e8
  have kq11 := kq10.fr0 e8
  have hF := hF.tr e8
  clear kp10 kq10
  by_cases r_dn : x.dn.xs = y.dn.xs
  rotate_left
  · rw [decide_eq_false r_dn]
    refine sA [] rfl ?_
    exact ret1 (.inr rfl) rfl rfl ⟨by rw [eqB_f fun h : pBk x = pBk y => r_dn (congrArg (Bk.dn (ρ := List Int8)) h)], hF⟩
  rw [decide_eq_true r_dn]
  refine sA [] rfl ?_
  exact ret1 (.inr rfl) rfl rfl ⟨by
    rw [eqB_t]
    simp only [Bk.map, Bk.mk.injEq]
    exact ⟨r_g1, r_q, r_k, r_v, r_o, r_g2, i_qs, i_ks, i_vs, i_os, i_ss, r_ga, r_up, r_dn, i_gas, i_ups, i_dns⟩, hF⟩
/-- models that are not too long -/
structure LM.Sm (m : LM) : Prop where
  rows : ∀ r ∈ m.rows, r.xs.length ≤ 1000000000
  bs : ∀ b ∈ m.bs, b.Sm
  bl : m.bs.length ≤ 1000000
  V : VS m.V
set_option maxHeartbeats 8000000 in
theorem refSameM (m u : LM) (w : World) (hm : m.At w) (hu : u.At w) (hl : m.Sm) (hl2 : u.Sm) :
    CallsF Tryz.prog 12 [lmV m, lmV u] w fun z w' => z = .bool (eqB (m.p = u.p)) ∧ Fr no w w' := by
  have hbl := hl.bl
  have hbl2 := hl2.bl
  refine callsF Tryz.func12 rfl rfl (by decide) rfl ?_
  refine sA [] rfl ?_
  refine ev_box rfl rfl rfl fun p w1 hp kp f1 => ?_
  refine ev_box rfl rfl rfl fun q w2 hq kq f2 => ?_
  have kp2 : Blk w2 p (lmC m) _ := kp.fr0 f2
  have kq2 : Blk w2 q (lmC u) _ := kq
  have hF := f1.tr f2
  clear kp kq
  have shC : ∀ (m : LM) {w : World} {p : Nat} {t : TypeId}, Blk w p (lmC m) t → Cs w (some ⟨p, 0, none⟩) (shpC m.s) := fun m {w p t} h => (Cs.of_blk h).part 0 fun j u hj => match j, hj with
    | 0, h => h | 1, h => h | 2, h => h | 3, h => h | 4, h => h | 5, h => h | n + 6, h => by simp at h
  have voC : ∀ (m : LM) {w : World} {p : Nat} {t : TypeId}, Blk w p (lmC m) t → Cs w (some ⟨p, 6, none⟩) [.slice m.tA m.V.texts.length m.tc, .slice m.mA m.V.merges.length m.mc] := fun m {w p t} h => (Cs.of_blk h).part 6 fun j u hj => match j, hj with
    | 0, h => h | 1, h => h | n + 2, h => by simp at h
  refine sA [] rfl ?_
  refine ev_loadAgg rfl rfl tabOk rfl rfl rfl (shC m kp2) ?_
  refine sA [] rfl ?_
  refine ev_loadAgg rfl rfl tabOk rfl rfl rfl (shC u kq2) ?_
  refine ev_y rfl rfl (y_shpR_neq (m := m.s) (m' := u.s) rfl rfl) ?_
  by_cases i_s : m.s = u.s
  rotate_left
  · rw [show (!decide (m.s = u.s)) = true by rw [decide_eq_false i_s]; rfl]
    refine sA [] rfl ?_
    exact ret1 (.inr rfl) rfl rfl ⟨by rw [eqB_f fun h : m.p = u.p => i_s (congrArg Md.s h)], hF⟩
  rw [show (!decide (m.s = u.s)) = false by rw [decide_eq_true i_s]; rfl]
  refine sA [] rfl ?_
  refine ev_loadAgg rfl rfl tabOk rfl rfl rfl (voC m kp2) ?_
  refine sA [] rfl ?_
  refine ev_loadAgg rfl rfl tabOk rfl rfl rfl (voC u kq2) ?_
  refine ev_call rfl rfl rfl (refSame m.tA m.tc m.mA m.mc m.V u.tA u.tc u.mA u.mc u.V w2 (hm.voc.fr0 hF) (hu.voc.fr0 hF) hl.V hl2.V) ?_
  rintro z w3 ⟨rfl, f3⟩
  have kp3 := kp2.fr0 f3
  have kq3 := kq2.fr0 f3
  have hF := hF.tr f3
  clear kp2 kq2
  by_cases i_V : m.V.same u.V
  rotate_left
  · rw [decide_eq_false i_V]
    refine sA [] rfl ?_
    exact ret1 (.inr rfl) rfl rfl ⟨by rw [eqB_f fun h : m.p = u.p => i_V (by have := congrArg Md.V h; rw [show m.V = u.V from this]; exact u.V.same_refl)], hF⟩
  rw [decide_eq_true i_V]
  refine sA [] rfl ?_; refine ev_loadB rfl rfl tabOk rfl rfl ‹_› (by rfl) ?_; refine sA [] rfl ?_; refine ev_loadB rfl rfl tabOk rfl rfl ‹_› (by rfl) ?_; refine sD [] rfl ?_; refine sD [] rfl ?_; refine sD [] rfl ?_
  by_cases i_es : m.es = u.es
  rotate_left
  · rw [show decide (¬ m.es = u.es) = true from decide_eq_true i_es]
    refine sA [] rfl ?_
    exact ret1 (.inr rfl) rfl rfl ⟨by rw [eqB_f fun h : m.p = u.p => i_es (congrArg Md.es h)], hF⟩
  rw [show decide (¬ m.es = u.es) = false from decide_eq_false fun h => h i_es]
  refine sA [] rfl ?_; refine ev_loadB rfl rfl tabOk rfl rfl ‹_› (by rfl) ?_; refine sA [] rfl ?_; refine ev_loadB rfl rfl tabOk rfl rfl ‹_› (by rfl) ?_; refine sD [] rfl ?_; refine sD [] rfl ?_; refine sD [] rfl ?_
  by_cases i_ls : m.ls = u.ls
  rotate_left
  · rw [show decide (¬ m.ls = u.ls) = true from decide_eq_true i_ls]
    refine sA [] rfl ?_
    exact ret1 (.inr rfl) rfl rfl ⟨by rw [eqB_f fun h : m.p = u.p => i_ls (congrArg Md.ls h)], hF⟩
  rw [show decide (¬ m.ls = u.ls) = false from decide_eq_false fun h => h i_ls]
  refine sA [] rfl ?_; refine ev_loadB rfl rfl tabOk rfl rfl ‹_› (by rfl) ?_; refine sA [] rfl ?_; refine ev_loadB rfl rfl tabOk rfl rfl ‹_› (by rfl) ?_; refine sC [] rfl ?_
  by_cases i_n : m.bs.length = u.bs.length
  rotate_left
  · rw [show decide (¬ (m.bs.length : Int) = u.bs.length) = true from decide_eq_true (by omega)]
    refine sA [] rfl ?_
    exact ret1 (.inr rfl) rfl rfl ⟨by rw [eqB_f fun h : m.p = u.p => i_n (by have := congrArg (fun m => m.bs.length) h; simpa [LM.p] using this)], hF⟩
  rw [show decide (¬ (m.bs.length : Int) = u.bs.length) = false from decide_eq_false (by omega)]
  refine sA [] rfl ?_; refine ev_loadB rfl rfl tabOk rfl rfl ‹_› (by rfl) ?_; refine sA [] rfl ?_
  refine ev_loop (α := Nat) (fun y => [(2, .pointer (some ⟨p, 0, none⟩)), (3, .pointer (some ⟨q, 0, none⟩)), (44, i64 m.bs.length), (45, i64 y)]) (fun y w' => y ≤ m.bs.length ∧ Fr no w w' ∧ Blk w' p (lmC m) _ ∧ Blk w' q (lmC u) _ ∧ ∀ i (h : i < m.bs.length), i < y → pBk m.bs[i] = pBk (u.bs[i]'(by omega))) (fun y => m.bs.length - y) 0 ⟨rfl, rfl, rfl, rfl, trivial⟩ ⟨Nat.zero_le _, hF, kp3, kq3, fun i _ h => absurd h (Nat.not_lt_zero _)⟩ ?_
  clear hF kp3 kq3
  rintro y w4 ⟨hy, hF, kp, kq, hz⟩
  refine sC [] rfl ?_; refine sD [] rfl ?_
  refine ev_condD rfl (fun c2 => ?_) (fun c2 => ?_)
  · have h1 : y < m.bs.length := by omega
    have h2 : y < u.bs.length := by omega
    obtain ⟨g, o, hA, hblk⟩ := blk_at (hm.blk.fr0 hF) h1
    obtain ⟨g2, o2, hA2, hblk2⟩ := blk_at (hu.blk.fr0 hF) h2
    have hx := (hm.bs _ (List.getElem_mem h1)).fr0 hF
    have hy2 := (hu.bs _ (List.getElem_mem h2)).fr0 hF
    have hxl := hl.bs _ (List.getElem_mem h1)
    have hmbs := hz
    refine sA [] rfl ?_
    refine ev_draw mixed (by kernel_rfl) ?_
    refine qA rfl ?_; refine q_loadB rfl rfl tabOk rfl rfl ‹_› (by rfl) ?_; refine qA rfl ?_
    refine q_indexAddr rfl rfl tabOk (congrArg (fun z => some (Value.slice z m.bs.length m.bc)) hA) rfl rfl (by omega) (by omega) ?_
    refine q_loadAgg rfl rfl tabOk rfl rfl rfl (fun w' h => hblk.fr0 h) ?_
    refine qA rfl ?_; refine q_loadB rfl rfl tabOk rfl rfl ‹_› (by rfl) ?_; refine qA rfl ?_
    refine q_indexAddr rfl rfl tabOk (congrArg (fun z => some (Value.slice z u.bs.length u.bc)) hA2) rfl rfl (by omega) (by omega) ?_
    refine q_loadAgg rfl rfl tabOk rfl rfl rfl (fun w' h => hblk2.fr0 h) ?_
    refine q_call rfl rfl rfl (fun w' hw' => (refBlocks m.bs[y] u.bs[y] w' (Bk.At.fr0 hx hw') (Bk.At.fr0 hy2 hw') hxl).mono fun u w'' z => ⟨z.1, hw'.tr z.2⟩) ?_
    refine qA rfl ?_
    by_cases c3 : pBk m.bs[y] = pBk u.bs[y]
    · rw [eqB_t c3]
      skip
      refine q_end fun w5 f5 => ?_
      have kp5 := kp.fr0 f5
      have kq5 := kq.fr0 f5
      clear hblk hblk2 kp kq
      refine sA [] rfl ?_; refine ev_arith rfl rfl rfl rfl rfl (by simp only [lowK, hiK]; omega) ?_; refine sA [] rfl ?_
      refine ev_next (y + 1) (by omega) ⟨by omega, hF.tr f5, kp5, kq5, fun i h hi => ?_⟩ ⟨rfl, rfl, rfl, by rw [show ((y + 1 : Nat) : Int) = (y : Int) + 1 by omega]; rfl, trivial⟩
      by_cases e : i = y
      · subst e; exact c3
      · exact hz i h (by omega)
    · rw [eqB_f c3]
      skip
      refine q_end fun w5 f5 => ?_
      refine sA [] rfl ?_
      exact ret1 (.inr rfl) rfl rfl ⟨by
        rw [eqB_f fun h : m.p = u.p => c3 ?_]
        have h := congrArg Md.bs h
        have h : m.bs.map pBk = u.bs.map pBk := h
        have := congrArg (fun l => l[y]?) h
        simpa [List.getElem?_map, List.getElem?_eq_getElem h1, List.getElem?_eq_getElem h2] using this, hF.tr f5⟩
  obtain rfl : y = m.bs.length := by omega
  have i_bs : m.bs.map pBk = u.bs.map pBk := List.ext_getElem (by simp [i_n]) fun i h h' => by
    have h : i < m.bs.length := by simpa using h
    rw [List.getElem_map, List.getElem_map]; exact hz i h h
  refine sA [] rfl ?_; refine ev_loadB rfl rfl tabOk rfl rfl ‹_› (by rfl) ?_; refine sA [] rfl ?_; refine ev_loadB rfl rfl tabOk rfl rfl ‹_› (by rfl) ?_
  refine ev_call rfl rfl rfl (refRows m.e u.e _ ((hm.rows _ (by simp)).fr0 hF) ((hu.rows _ (by simp)).fr0 hF) (hl.rows _ (by simp))) ?_
  rintro z0 v0 ⟨rfl, e0⟩
  have kp := kp.fr0 e0
  have kq := kq.fr0 e0
  have hF := hF.tr e0
  by_cases r_e : m.e.xs = u.e.xs
  rotate_left
  · rw [decide_eq_false r_e]
    refine sA [] rfl ?_
    exact ret1 (.inr rfl) rfl rfl ⟨by rw [eqB_f fun h : m.p = u.p => r_e (congrArg Md.e h)], hF⟩
  rw [decide_eq_true r_e]
  refine sA [] rfl ?_; refine ev_loadB rfl rfl tabOk rfl rfl ‹_› (by rfl) ?_; refine sA [] rfl ?_; refine ev_loadB rfl rfl tabOk rfl rfl ‹_› (by rfl) ?_
  refine ev_call rfl rfl rfl (refRows m.cos u.cos _ ((hm.rows _ (by simp)).fr0 hF) ((hu.rows _ (by simp)).fr0 hF) (hl.rows _ (by simp))) ?_
  rintro z1 v1 ⟨rfl, e1⟩
  have kp := kp.fr0 e1
  have kq := kq.fr0 e1
  have hF := hF.tr e1
  by_cases r_cos : m.cos.xs = u.cos.xs
  rotate_left
  · rw [decide_eq_false r_cos]
    refine sA [] rfl ?_
    exact ret1 (.inr rfl) rfl rfl ⟨by rw [eqB_f fun h : m.p = u.p => r_cos (congrArg Md.cos h)], hF⟩
  rw [decide_eq_true r_cos]
  refine sA [] rfl ?_; refine ev_loadB rfl rfl tabOk rfl rfl ‹_› (by rfl) ?_; refine sA [] rfl ?_; refine ev_loadB rfl rfl tabOk rfl rfl ‹_› (by rfl) ?_
  refine ev_call rfl rfl rfl (refRows m.sin u.sin _ ((hm.rows _ (by simp)).fr0 hF) ((hu.rows _ (by simp)).fr0 hF) (hl.rows _ (by simp))) ?_
  rintro z2 v2 ⟨rfl, e2⟩
  have kp := kp.fr0 e2
  have kq := kq.fr0 e2
  have hF := hF.tr e2
  by_cases r_sin : m.sin.xs = u.sin.xs
  rotate_left
  · rw [decide_eq_false r_sin]
    refine sA [] rfl ?_
    exact ret1 (.inr rfl) rfl rfl ⟨by rw [eqB_f fun h : m.p = u.p => r_sin (congrArg Md.sin h)], hF⟩
  rw [decide_eq_true r_sin]
  refine sA [] rfl ?_; refine ev_loadB rfl rfl tabOk rfl rfl ‹_› (by rfl) ?_; refine sA [] rfl ?_; refine ev_loadB rfl rfl tabOk rfl rfl ‹_› (by rfl) ?_
  refine ev_call rfl rfl rfl (refRows m.bend u.bend _ ((hm.rows _ (by simp)).fr0 hF) ((hu.rows _ (by simp)).fr0 hF) (hl.rows _ (by simp))) ?_
  rintro z3 v3 ⟨rfl, e3⟩
  have kp := kp.fr0 e3
  have kq := kq.fr0 e3
  have hF := hF.tr e3
  by_cases r_bend : m.bend.xs = u.bend.xs
  rotate_left
  · rw [decide_eq_false r_bend]
    refine sA [] rfl ?_
    exact ret1 (.inr rfl) rfl rfl ⟨by rw [eqB_f fun h : m.p = u.p => r_bend (congrArg Md.bend h)], hF⟩
  rw [decide_eq_true r_bend]
  refine sA [] rfl ?_; refine ev_loadB rfl rfl tabOk rfl rfl ‹_› (by rfl) ?_; refine sA [] rfl ?_; refine ev_loadB rfl rfl tabOk rfl rfl ‹_› (by rfl) ?_
  refine ev_call rfl rfl rfl (refRows m.gain u.gain _ ((hm.rows _ (by simp)).fr0 hF) ((hu.rows _ (by simp)).fr0 hF) (hl.rows _ (by simp))) ?_
  rintro z4 v4 ⟨rfl, e4⟩
  have kp := kp.fr0 e4
  have kq := kq.fr0 e4
  have hF := hF.tr e4
  by_cases r_gain : m.gain.xs = u.gain.xs
  rotate_left
  · rw [decide_eq_false r_gain]
    refine sA [] rfl ?_
    exact ret1 (.inr rfl) rfl rfl ⟨by rw [eqB_f fun h : m.p = u.p => r_gain (congrArg Md.gain h)], hF⟩
  rw [decide_eq_true r_gain]
  refine sA [] rfl ?_; refine ev_loadB rfl rfl tabOk rfl rfl ‹_› (by rfl) ?_; refine sA [] rfl ?_; refine ev_loadB rfl rfl tabOk rfl rfl ‹_› (by rfl) ?_
  refine ev_call rfl rfl rfl (refRows m.un u.un _ ((hm.rows _ (by simp)).fr0 hF) ((hu.rows _ (by simp)).fr0 hF) (hl.rows _ (by simp))) ?_
  rintro z5 v5 ⟨rfl, e5⟩
  have kp := kp.fr0 e5
  have kq := kq.fr0 e5
  have hF := hF.tr e5
  by_cases r_un : m.un.xs = u.un.xs
  rotate_left
  · rw [decide_eq_false r_un]
    refine sA [] rfl ?_
    exact ret1 (.inr rfl) rfl rfl ⟨by rw [eqB_f fun h : m.p = u.p => r_un (congrArg Md.un h)], hF⟩
  rw [decide_eq_true r_un]
  refine sA [] rfl ?_
  exact ret1 (.inr rfl) rfl rfl ⟨by
    rw [eqB_t]
    simp only [LM.p, Md.mk.injEq]
    have hV : m.V = u.V := by
      obtain ⟨h1, h2⟩ := i_V
      cases hv : m.V; cases hw : u.V
      rw [hv, hw] at h1 h2
      cases h1; cases h2; rfl
    exact ⟨i_s, hV, r_e, i_es, r_cos, r_sin, i_bs, r_bend, r_gain, r_un, i_ls⟩, hF⟩
end Go.Wk.YtdelgnflcfhhkaaGreatDoor
namespace Go.Wk.YtdelgnflcfhhkaaGreatDoor
open Go Go.Wk Go.Proofs
theorem refOwn (r : Rw) (w : World) (hr : r.At w) (hl : r.xs.length ≤ 1000000000) :
    CallsF Tryz.prog 50 [r.v] w fun z w' => ∃ r' : Rw, z = r'.v ∧ r'.xs = r.xs ∧ OR w w' r' ∧ Fr no w w' := by
  refine callsF Tryz.func50 rfl rfl (by decide) rfl ?_
  refine sA [] rfl ?_
  refine ev_buildSlice (vs := []) tabOk rfl rfl rfl inf177 rfl rfl rfl (fun v hv => by simp at hv) rfl (fun b w1 hb hb1 f1 => ?_)
  refine sA [] rfl ?_
  have hO : Own w1 177 1 (.slice (some ⟨b, 0, none⟩) 0 0) 0 [] := own_of_blk hb1 rfl (by omega)
  refine ev_append tabOk rfl rfl rfl inf177 rfl (by omega) rfl rfl hO (hr.fr0 f1) (by simp) (fun u hu => by obtain ⟨x, _, rfl⟩ := List.mem_map.1 hu; rfl) (by omega) (fun v' w' hO' f' hn => ?_)
  refine sA [] rfl ?_
  have hF : Fr no w w' := f1.trans f' fun z hz e => by have e : some b = some z := e; cases e; omega
  obtain ⟨A, c, e, _, _⟩ := hO'.slice
  subst e
  rw [Nat.zero_add, List.nil_append] at hO'
  refine ret1 (.inr rfl) rfl rfl ⟨⟨A, c, r.xs⟩, by rw [Nat.zero_add], rfl, ⟨hO', fun g hg => ?_⟩, hF⟩
  have hs := f1.size
  rcases hn with h | h
  · rw [Nat.zero_add] at h
    have h2 : (Value.slice A r.xs.length c).ownBlock = some b := h
    have h3 : (Value.slice A r.xs.length c).ownBlock = some g := hg
    rw [h2] at h3; cases h3; exact hb
  · rw [Nat.zero_add] at h
    have h2 : (Value.slice A r.xs.length c).ownBlock = some w1.heap.size := h
    have h3 : (Value.slice A r.xs.length c).ownBlock = some g := hg
    rw [h2] at h3; cases h3; exact hs
/-- new rows, each in a block of its own -/
structure NR (w0 w : World) (Q : List Rw) : Prop where
  rows : ∀ r ∈ Q, OR w0 w r
  ap : Q.Pairwise apR
theorem NR.nil (w0 w : World) : NR w0 w [] := ⟨(fun r h => by cases h), List.Pairwise.nil⟩
theorem NR.fr {S : Nat → Prop} {w0 w w' : World} {Q : List Rw} (h : NR w0 w Q) (hf : Fr S w w') (hn : ∀ r ∈ Q, ∀ g, r.v.ownBlock = some g → ¬ S g) : NR w0 w' Q := ⟨fun r hr => (h.rows r hr).fr hf (hn r hr), h.ap⟩
theorem NR.fr0 {w0 w w' : World} {Q : List Rw} (h : NR w0 w Q) (hf : Fr no w w') : NR w0 w' Q := h.fr hf fun _ _ _ _ => id
theorem NR.app {w0 w w' : World} {Q Q' : List Rw} (h : NR w0 w Q) (hf : Fr no w w') (h' : NR w w' Q') (hs : w0.heap.size ≤ w.heap.size) : NR w0 w' (Q ++ Q') :=
  ⟨fun r hr => by
    rcases List.mem_append.1 hr with hr | hr
    · exact (h.rows r hr).fr0 hf
    · exact ⟨(h'.rows r hr).1, fun g hg => Nat.le_trans hs ((h'.rows r hr).2 g hg)⟩,
   List.pairwise_append.2 ⟨h.ap, h'.ap, fun r hr r' hr' g hg e => by
    have h1 := (h.rows r hr).lt hg
    have h2 := (h'.rows r' hr').2 g e
    omega⟩⟩
theorem NR.one {w0 w : World} {r : Rw} (h : OR w0 w r) : NR w0 w [r] := ⟨fun q hq => by rw [List.mem_singleton.1 hq]; exact h, List.pairwise_singleton _ _⟩
theorem NR.add {w0 w w' : World} {Q : List Rw} {r : Rw} (h : NR w0 w Q) (hr : OR w w' r) (hf : Fr no w w') (hs : w0.heap.size ≤ w.heap.size) : NR w0 w' (Q ++ [r]) := h.app hf (NR.one hr) hs
theorem NR.At {w0 w : World} {Q : List Rw} (h : NR w0 w Q) {r : Rw} (hr : r ∈ Q) : r.At w := (h.rows r hr).At
theorem NR.ge {w0 w : World} {Q : List Rw} (h : NR w0 w Q) {b : Nat} (hb : b < w0.heap.size) : ∀ r ∈ Q, ∀ g, r.v.ownBlock = some g → ¬ g = b := fun r hr g hg e => by
  have := (h.rows r hr).2 g hg; omega
/-- three more rows: blocks, merges, texts -/
structure OM (w0 w : World) (bv mv tv : Value) (Q : List Rw) : Prop where
  q : NR w0 w Q
  lo : ∀ v ∈ [bv, mv, tv], ∀ g, v.ownBlock = some g → w0.heap.size ≤ g ∧ g < w.heap.size ∧ ∀ r ∈ Q, r.v.ownBlock ≠ some g
  tm : ∀ g, tv.ownBlock = some g → mv.ownBlock ≠ some g ∧ bv.ownBlock ≠ some g
  mb : ∀ g, mv.ownBlock = some g → bv.ownBlock ≠ some g
section
variable {w0 w w' : World} {bv mv tv : Value} {Q : List Rw}
theorem OM.fr {S : Nat → Prop} (h : OM w0 w bv mv tv Q) (hf : Fr S w w') (hn : ∀ r ∈ Q, ∀ g, r.v.ownBlock = some g → ¬ S g) : OM w0 w' bv mv tv Q :=
  ⟨h.q.fr hf hn, fun v hv g hg => have z := h.lo v hv g hg; ⟨z.1, Nat.lt_of_lt_of_le z.2.1 hf.size, z.2.2⟩, h.tm, h.mb⟩
theorem OM.fr0 (h : OM w0 w bv mv tv Q) (hf : Fr no w w') : OM w0 w' bv mv tv Q := h.fr hf fun _ _ _ _ => id
/-- an old block is written -/
theorem OM.old (h : OM w0 w bv mv tv Q) {b : Nat} (hb : b < w0.heap.size) (hf : Fr (fun c => c = b) w w') : OM w0 w' bv mv tv Q := h.fr hf (h.q.ge hb)
theorem OM.start (w0 w : World) {Q : List Rw} (h : NR w0 w Q) : OM w0 w (.slice none 0 0) (.slice none 0 0) (.slice none 0 0) Q :=
  ⟨h, (fun v hv g hg => by simp only [List.mem_cons, List.not_mem_nil, or_false] at hv; rcases hv with rfl | rfl | rfl <;> cases hg), (fun g hg => by cases hg), (fun g hg => by cases hg)⟩
theorem OM.app (h : OM w0 w bv mv tv Q) {Q' : List Rw} (hf : Fr no w w') (h' : NR w w' Q') (hs : w0.heap.size ≤ w.heap.size) : OM w0 w' bv mv tv (Q ++ Q') :=
  ⟨h.q.app hf h' hs, fun v hv g hg => have z := h.lo v hv g hg; ⟨z.1, Nat.lt_of_lt_of_le z.2.1 hf.size, fun r hr => by
    rcases List.mem_append.1 hr with hr | hr
    · exact z.2.2 r hr
    · intro e; have := (h'.rows r hr).2 g e; omega⟩, h.tm, h.mb⟩
theorem OM.lt (h : OM w0 w bv mv tv Q) {v : Value} (hv : v ∈ [bv, mv, tv]) {g : Nat} (hg : v.ownBlock = some g) : g < w.heap.size := (h.lo v hv g hg).2.1
/-- the texts' row is new -/
theorem OM.setT (h : OM w0 w bv mv tv Q) {tv' : Value} (hf : Fr no w w') (hn : ∀ g, tv'.ownBlock = some g → w.heap.size ≤ g ∧ g < w'.heap.size) (hs : w0.heap.size ≤ w.heap.size) : OM w0 w' bv mv tv' Q := by
  have h' := h.fr0 hf
  refine ⟨h'.q, fun v hv g hg => ?_, fun g hg => ?_, h.mb⟩
  · simp only [List.mem_cons, List.not_mem_nil, or_false] at hv
    rcases hv with rfl | rfl | rfl
    · exact h'.lo _ (by simp) g hg
    · exact h'.lo _ (by simp) g hg
    · have := hn g hg
      exact ⟨by omega, this.2, fun r hr e => by have := (h.q.rows r hr).lt e; omega⟩
  · have z := hn g hg
    exact ⟨fun e => by have := h.lt (v := mv) (by simp) e; omega, fun e => by have := h.lt (v := bv) (by simp) e; omega⟩
/-- the merges' row grows -/
theorem OM.setM (h : OM w0 w bv mv tv Q) {mv' : Value} (hf : Fr (fun c => mv.ownBlock = some c) w w') (hn : NB w mv mv') (hl : ∀ g, mv'.ownBlock = some g → g < w'.heap.size) (hs : w0.heap.size ≤ w.heap.size) : OM w0 w' bv mv' tv Q := by
  have h' := h.fr hf (fun r hr g hg e => (h.lo mv (by simp) g e).2.2 r hr hg)
  refine ⟨h'.q, fun v hv g hg => ?_, fun g hg => ?_, fun g hg => ?_⟩
  · simp only [List.mem_cons, List.not_mem_nil, or_false] at hv
    rcases hv with rfl | rfl | rfl
    · exact h'.lo _ (by simp) g hg
    · rcases hn g hg with z | z
      · exact h'.lo mv (by simp) g z
      · exact ⟨by omega, hl g hg, fun r hr e => by have := (h.q.rows r hr).lt e; omega⟩
    · exact h'.lo _ (by simp) g hg
  · refine ⟨fun e => ?_, (h.tm g hg).2⟩
    rcases hn g e with z | z
    · exact (h.tm g hg).1 z
    · have := h.lt (v := tv) (by simp) hg; omega
  · intro e
    rcases hn g hg with z | z
    · exact h.mb g z e
    · have := h.lt (v := bv) (by simp) e; omega
/-- the blocks' row grows -/
theorem OM.setB (h : OM w0 w bv mv tv Q) {bv' : Value} (hf : Fr (fun c => bv.ownBlock = some c) w w') (hn : NB w bv bv') (hl : ∀ g, bv'.ownBlock = some g → g < w'.heap.size) (hs : w0.heap.size ≤ w.heap.size) : OM w0 w' bv' mv tv Q := by
  have h' := h.fr hf (fun r hr g hg e => (h.lo bv (by simp) g e).2.2 r hr hg)
  refine ⟨h'.q, fun v hv g hg => ?_, fun g hg => ?_, fun g hg e => ?_⟩
  · simp only [List.mem_cons, List.not_mem_nil, or_false] at hv
    rcases hv with rfl | rfl | rfl
    · rcases hn g hg with z | z
      · exact h'.lo bv (by simp) g z
      · exact ⟨by omega, hl g hg, fun r hr e => by have := (h.q.rows r hr).lt e; omega⟩
    · exact h'.lo _ (by simp) g hg
    · exact h'.lo _ (by simp) g hg
  · refine ⟨(h.tm g hg).1, fun e => ?_⟩
    rcases hn g e with z | z
    · exact (h.tm g hg).2 z
    · have := h.lt (v := tv) (by simp) hg; omega
  · rcases hn g e with z | z
    · exact h.mb g hg z
    · have := h.lt (v := mv) (by simp) hg; omega
end
theorem apR_symm {a b : Rw} (h : apR a b) : apR b a := fun g hg e => h g e hg
/-- what a copied model is -/
theorem OM.own {TM TB : TypeId} {w w0 w' : World} {m : LM} {Q : List Rw} (h : OM w0 w' (.slice m.bA m.bs.length m.bc) (.slice m.mA m.V.merges.length m.mc) (.slice m.tA m.V.texts.length m.tc) Q) (hQ : Q.Perm m.all)
    (ht : Own w' 9 1 (.slice m.tA m.V.texts.length m.tc) m.V.texts.length (m.V.texts.map sv)) (hm : Own w' TM 3 (.slice m.mA m.V.merges.length m.mc) m.V.merges.length (mcs m.V.merges)) (hb : Own w' TB 17 (.slice m.bA m.bs.length m.bc) m.bs.length (m.bs.flatMap bkC))
    (hf : Fr no w w') (hs : w.heap.size ≤ w0.heap.size) : OwnM TM TB w w' m :=
  ⟨fun r hr => have z := h.q.rows r (hQ.mem_iff.2 hr); ⟨z.1, fun g hg => Nat.le_trans hs (z.2 g hg)⟩, (hQ.pairwise_iff apR_symm).1 h.q.ap, ht, hm, hb,
   fun g hg => by
    have z : ∀ v ∈ [Value.slice m.bA m.bs.length m.bc, .slice m.mA m.V.merges.length m.mc, .slice m.tA m.V.texts.length m.tc], v.ownBlock = some g → w.heap.size ≤ g ∧ ∀ r ∈ m.all, r.v.ownBlock ≠ some g := fun v hv e =>
      have y := h.lo v hv g e; ⟨Nat.le_trans hs y.1, fun r hr => y.2.2 r (hQ.mem_iff.2 hr)⟩
    rcases hg with e | e | e
    · exact z _ (by simp) e
    · exact z _ (by simp) e
    · exact z _ (by simp) e,
   h.tm, h.mb, hf⟩
end Go.Wk.YtdelgnflcfhhkaaGreatDoor
