/-
  The walks of chapter 13: vocab.Same.
-/
import Derived.Test.YtfgllkflnkolhaaDoorVoS
set_option linter.unusedVariables false
namespace Go.Wk.YtfgllkflnkolhaaDoor
open Go Go.Wk Go.Proofs

theorem mrg_neq2 (m n : Int × Int × Int) (w : World) : (binOp .neq 114 (mrgV m) (mrgV n)).run Tryd.prog w = .ok (.bool (!decide (m = n))) w := by
  obtain ⟨a, b, c⟩ := m
  obtain ⟨a', b', c'⟩ := n
  have u3 := Tryd.underlying3
  have a3 := Tryd.isAgg3
  have z3 := Tryd.sizeOf3
  have hS : Tryd.prog.underlying 114 = some (.struct (Tryd.prog.fieldsOf 114)) := by kernel_rfl
  rw [run_neq_struct, show (10000 : Nat) = 9999 + 1 from rfl, run_equalIn_agg w 9999 114 _ _ hS (by kernel_rfl)]
  simp only [Program.fieldsOf, Tryd.underlying114]
  go_simp
  by_cases h1 : a = a' <;> by_cases h2 : b = b' <;> by_cases h3 : c = c' <;> simp [h1, h2, h3]
theorem q_mrgNeq2 {C : World → Prop} {n : Nat} {Q : Act → Prop} {L l : List Oper} {env : Env} {d : Nat} {ty t' : TypeId} {ps : String} {af : Array Edge} {g : Option (Nat × Bool)} {x y : Operand} {m m' : Mrg}
    (hg : guardOf L env g = some true) (hd : Nat.blt d n = true) (hx : ev env x = some (.agg ⟨mrg1 m⟩)) (hy : ev env y = some (.agg ⟨mrg1 m'⟩))
    (hk : HQ Tryd.prog C n Q L l ((d, .bool (!decide (m = m'))) :: env)) : HQ Tryd.prog C n Q L (⟨some d, .binOp .neq 114 x y t', ty, ps, af, g⟩ :: l) env :=
  q_y hg hd (fun a hA w _ => by
    simp only [execOp, hA.ev hx, hA.ev hy]
    refine run_bind (a := Value.bool (!decide (m = m'))) (w' := w) ?_
    refine (run_bind (a := ()) (w' := w) (run_eqGuard_agg _ _ _ _ _ _ _ (by kernel_rfl))).trans ?_
    exact mrg_neq2 m m' w) hk

theorem t_all {a b : VV} (h1 : a.texts.length = b.texts.length) (h3 : ∀ i, i < a.texts.length → a.t i = b.t i) : a.texts = b.texts :=
  (same_of (a := ⟨a.texts, []⟩) (b := ⟨b.texts, []⟩) h1 rfl h3 (fun i hi => absurd hi (Nat.not_lt_zero i))).1
theorem m_all {a b : VV} (h1 : a.merges.length = b.merges.length) (h3 : ∀ i, i < a.merges.length → a.m i = b.m i) : a.merges = b.merges :=
  (same_of (a := ⟨[], a.merges⟩) (b := ⟨[], b.merges⟩) rfl h1 (fun i hi => absurd hi (Nat.not_lt_zero i)) h3).2

theorem eqStr (A : Option Addr) (c : Nat) (A2 : Option Addr) (c2 : Nat) (v u : VV) (w : World) (hV : Cs w A (v.texts.map sv)) (hU : Cs w A2 (u.texts.map sv)) (hnt : v.texts.length ≤ 5000000) (hnt2 : u.texts.length ≤ 5000000) :
    CallsF Tryd.prog 75 [.slice A v.texts.length c, .slice A2 u.texts.length c2] w fun r w' => r = .bool (decide (v.texts = u.texts)) ∧ Fr no w w' := by
  have bad : ¬ v.texts = u.texts → decide (v.texts = u.texts) = false := fun h => decide_eq_false h
  refine callsF Tryd.func75 rfl rfl (by decide) rfl ?_
  refine sC [] rfl ?_; refine sC [] rfl ?_; refine sC [] rfl ?_; refine sD [] rfl ?_
  refine ev_condD rfl (fun h1 => ?_) (fun h1 => ?_)
  · refine sA [] rfl ?_
    exact ret1 (.inr rfl) rfl rfl ⟨by rw [bad (fun h => h1 (by rw [h]))], Fr.refl _ _⟩
  have h1 : v.texts.length = u.texts.length := by omega
  refine sA [] rfl ?_
  refine ev_loop (α := Nat) (fun k => [(0, .slice A v.texts.length c), (1, .slice A2 u.texts.length c2), (12, i64 v.texts.length), (13, i64 k)])
    (fun k w' => k ≤ v.texts.length ∧ (∀ i, i < k → v.t i = u.t i) ∧ Fr no w w') (fun k => v.texts.length - k) 0 ⟨rfl, rfl, rfl, rfl, trivial⟩ ⟨Nat.zero_le _, fun j h => by omega, Fr.refl _ _⟩ ?_
  rintro k w2 ⟨hk, hall, hf⟩
  refine sC [] rfl ?_; refine sD [] rfl ?_
  refine ev_condD rfl (fun hlt => ?_) (fun hlt => ?_)
  · have hk1 : k < v.texts.length := by omega
    obtain ⟨g, o, e1, hcx⟩ := strs_at (hV.fr0 hf) hk1
    subst e1
    obtain ⟨g2, o2, e2, hcy⟩ := strs_at (l := u.texts) (hU.fr0 hf) (j := k) (by omega)
    subst e2
    have hcx : w2.cell? ⟨g, o + (k : Int).toNat * 1, none⟩ = some (sv (v.t k)) := hcx
    have hcy : w2.cell? ⟨g2, o2 + (k : Int).toNat * 1, none⟩ = some (sv (u.t k)) := hcy
    refine sA [] rfl ?_
    refine ev_draw mixed (by kernel_rfl) ?_
    refine qA rfl ?_
    refine q_indexAddr (len := v.texts.length) (i := k) rfl rfl tabOk rfl rfl rfl (by omega) (by omega) ?_
    refine q_load rfl rfl tabOk rfl rfl (fun _ hf => cell_fr (by assumption) hf id) ?_; refine qA rfl ?_
    refine q_indexAddr (len := u.texts.length) (i := k) rfl rfl tabOk rfl rfl rfl (by omega) (by omega) ?_
    refine q_load rfl rfl tabOk rfl rfl (fun _ hf => cell_fr (by assumption) hf id) ?_; refine qA rfl ?_
    refine q_end fun w3 hf3 => ?_
    refine ev_condD rfl (fun h3 => ?_) (fun h3 => ?_)
    · refine sA [] rfl ?_
      exact ret1 (.inr rfl) rfl rfl ⟨by rw [bad (fun h => h3 (by unfold VV.t; rw [h]))], hf.tr hf3⟩
    · have h3 := Decidable.not_not.1 h3
      clear hcx hcy
      refine sA [] rfl ?_; refine ev_arith rfl rfl rfl rfl rfl (by simp only [lowK, hiK]; omega) ?_; refine sA [] rfl ?_
      refine ev_next (k + 1) (by omega) ⟨by omega, fun i hi => ?_, hf.tr hf3⟩ ⟨rfl, rfl, rfl, rfl, trivial⟩
      by_cases e : i = k
      · subst e; exact h3
      · exact hall i (by omega)
  · have hkn : k = v.texts.length := by omega
    subst hkn
    refine sA [] rfl ?_
    exact ret1 (.inr rfl) rfl rfl ⟨by rw [decide_eq_true (t_all h1 hall)], hf⟩

theorem eqMrg (A : Option Addr) (c : Nat) (A2 : Option Addr) (c2 : Nat) (v u : VV) (w : World) (hV : Cs w A (mcs v.merges)) (hU : Cs w A2 (mcs u.merges)) (hnt : v.merges.length ≤ 5000000) (hnt2 : u.merges.length ≤ 5000000) :
    CallsF Tryd.prog 76 [.slice A v.merges.length c, .slice A2 u.merges.length c2] w fun r w' => r = .bool (decide (v.merges = u.merges)) ∧ Fr no w w' := by
  have bad : ¬ v.merges = u.merges → decide (v.merges = u.merges) = false := fun h => decide_eq_false h
  refine callsF Tryd.func76 rfl rfl (by decide) rfl ?_
  refine sC [] rfl ?_; refine sC [] rfl ?_; refine sC [] rfl ?_; refine sD [] rfl ?_
  refine ev_condD rfl (fun h1 => ?_) (fun h1 => ?_)
  · refine sA [] rfl ?_
    exact ret1 (.inr rfl) rfl rfl ⟨by rw [bad (fun h => h1 (by rw [h]))], Fr.refl _ _⟩
  have h1 : v.merges.length = u.merges.length := by omega
  refine sA [] rfl ?_
  refine ev_loop (α := Nat) (fun k => [(0, .slice A v.merges.length c), (1, .slice A2 u.merges.length c2), (12, i64 v.merges.length), (13, i64 k)])
    (fun k w' => k ≤ v.merges.length ∧ (∀ i, i < k → v.m i = u.m i) ∧ Fr no w w') (fun k => v.merges.length - k) 0 ⟨rfl, rfl, rfl, rfl, trivial⟩ ⟨Nat.zero_le _, fun j h => by omega, Fr.refl _ _⟩ ?_
  rintro k w2 ⟨hk, hall, hf⟩
  refine sC [] rfl ?_; refine sD [] rfl ?_
  refine ev_condD rfl (fun hlt => ?_) (fun hlt => ?_)
  · have hk1 : k < v.merges.length := by omega
    obtain ⟨g, o, e1, hcx⟩ := mrgs_at (l := v.merges) hV hk1
    subst e1
    obtain ⟨g2, o2, e2, hcy⟩ := mrgs_at (l := u.merges) hU (j := k) (by omega)
    subst e2
    have hcx : ∀ w', Fr no w2 w' → Cs w' (some ⟨g, o + (k : Int).toNat * 3, none⟩) (mrg1 (v.m k)) := fun w' hf' => hcx.fr0 (hf.tr hf')
    have hcy : ∀ w', Fr no w2 w' → Cs w' (some ⟨g2, o2 + (k : Int).toNat * 3, none⟩) (mrg1 (u.m k)) := fun w' hf' => hcy.fr0 (hf.tr hf')
    refine sA [] rfl ?_
    refine ev_draw mixed (by kernel_rfl) ?_
    refine qA rfl ?_
    refine q_indexAddr (len := v.merges.length) (i := k) rfl rfl tabOk rfl rfl rfl (by omega) (by omega) ?_
    refine q_loadAgg rfl rfl tabOk rfl rfl rfl hcx ?_
    refine qA rfl ?_
    refine q_indexAddr (len := u.merges.length) (i := k) rfl rfl tabOk rfl rfl rfl (by omega) (by omega) ?_
    refine q_loadAgg rfl rfl tabOk rfl rfl rfl hcy ?_
    refine q_mrgNeq2 (m := v.m k) (m' := u.m k) rfl rfl rfl rfl ?_
    refine q_end fun w3 hf3 => ?_
    refine ev_condND rfl (fun h3 => ?_) (fun h3 => ?_)
    · refine sA [] rfl ?_
      exact ret1 (.inr rfl) rfl rfl ⟨by rw [bad (fun h => h3 (by unfold VV.m; rw [h]))], hf.tr hf3⟩
    · clear hcx hcy
      refine sA [] rfl ?_; refine ev_arith rfl rfl rfl rfl rfl (by simp only [lowK, hiK]; omega) ?_; refine sA [] rfl ?_
      refine ev_next (k + 1) (by omega) ⟨by omega, fun i hi => ?_, hf.tr hf3⟩ ⟨rfl, rfl, rfl, rfl, trivial⟩
      by_cases e : i = k
      · subst e; exact h3
      · exact hall i (by omega)
  · have hkn : k = v.merges.length := by omega
    subst hkn
    refine sA [] rfl ?_
    exact ret1 (.inr rfl) rfl rfl ⟨by rw [decide_eq_true (m_all h1 hall)], hf⟩

theorem wSame (A : Option Addr) (c : Nat) (B : Option Addr) (d : Nat) (v : VV) (A2 : Option Addr) (c2 : Nat) (B2 : Option Addr) (d2 : Nat) (u : VV) (w : World) (hV : Vo w A B v) (hU : Vo w A2 B2 u) (hS : VS v) (hS2 : VS u) :
    CallsF Tryd.prog 60 [vv A c B d v, vv A2 c2 B2 d2 u] w fun r w' => r = .bool (decide (v.same u)) ∧ Fr no w w' := by
  refine callsF Tryd.func60 rfl rfl (by decide) rfl ?_
  refine stepF_ok tabOk [] (m := 3) rfl ?_
  refine ev_box rfl rfl rfl (fun p wb hp hB hfb => ?_)
  have hB : Blk wb p [.slice A v.texts.length c, .slice B v.merges.length d] 48 := hB
  refine ev_box rfl rfl rfl (fun q w1 hq hQ hf1 => ?_)
  have hQ : Blk w1 q [.slice A2 u.texts.length c2, .slice B2 u.merges.length d2] 48 := hQ
  have hB := hB.fr0 hf1
  have hf01 := hfb.tr hf1
  clear hfb hf1
  refine sA [] rfl ?_; refine ev_loadB rfl rfl tabOk rfl rfl ‹_› (by rfl) ?_; refine sA [] rfl ?_; refine ev_loadB rfl rfl tabOk rfl rfl ‹_› (by rfl) ?_
  refine ev_call rfl rfl rfl (eqStr A c A2 c2 v u _ (hV.fr0 hf01).1 (hU.fr0 hf01).1 hS.texts hS2.texts) (fun r w2 hr => ?_)
  obtain ⟨rfl, hf2⟩ := hr
  have hB2 := hB.fr0 hf2
  have hQ2 := hQ.fr0 hf2
  have hf02 := hf01.tr hf2
  clear hB hQ hf2
  by_cases h : v.texts = u.texts
  · rw [decide_eq_true h]
    refine sA [] rfl ?_; refine ev_loadB rfl rfl tabOk rfl rfl ‹_› (by rfl) ?_; refine sA [] rfl ?_; refine ev_loadB rfl rfl tabOk rfl rfl ‹_› (by rfl) ?_
    refine ev_call rfl rfl rfl (eqMrg B d B2 d2 v u _ (hV.fr0 hf02).2 (hU.fr0 hf02).2 hS.merges hS2.merges) (fun r w3 hr => ?_)
    obtain ⟨rfl, hf3⟩ := hr
    refine sA [] rfl ?_
    exact ret1 (.inr rfl) rfl rfl ⟨congrArg Value.bool (decide_eq_decide.2 ⟨fun e => ⟨h, e⟩, fun e => e.2⟩), hf02.tr hf3⟩
  · rw [decide_eq_false h]
    refine sA [] rfl ?_
    exact ret1 (.inr rfl) rfl rfl ⟨by rw [decide_eq_false fun e => h e.1], hf02⟩
end Go.Wk.YtfgllkflnkolhaaDoor
