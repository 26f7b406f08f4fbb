/-
  The walks of chapter 13: vocab.Same and VocabSame.
-/
import Derived.Test.YtjdfdahdobikmaaVoO
set_option linter.unusedVariables false
namespace Go.Wk.Ytjdfdahdobikmaa
open Go Go.Wk Go.Proofs

theorem mrg_neq2 (m n : Int × Int × Int) (w : World) : (binOp .neq 51 (mrgV m) (mrgV n)).run Try.prog w = .ok (.bool (!decide (m = n))) w := by
  obtain ⟨a, b, c⟩ := m
  obtain ⟨a', b', c'⟩ := n
  have u3 := Try.underlying3
  have a3 := Try.isAgg3
  have z3 := Try.sizeOf3
  have hS : Try.prog.underlying 51 = some (.struct (Try.prog.fieldsOf 51)) := by kernel_rfl
  rw [run_neq_struct, show (10000 : Nat) = 9999 + 1 from rfl, run_equalIn_agg w 9999 51 _ _ hS (by kernel_rfl)]
  simp only [Program.fieldsOf, Try.underlying51]
  go_simp
  by_cases h1 : a = a' <;> by_cases h2 : b = b' <;> by_cases h3 : c = c' <;> simp [h1, h2, h3]
theorem q_mrgNeq2 {C : World → Prop} {n : Nat} {Q : Act → Prop} {L l : List Oper} {env : Env} {d : Nat} {ty t' : TypeId} {ps : String} {af : Array Edge} {g : Option (Nat × Bool)} {x y : Operand} {m m' : Mrg}
    (hg : guardOf L env g = some true) (hd : Nat.blt d n = true) (hx : ev env x = some (.agg ⟨mrg1 m⟩)) (hy : ev env y = some (.agg ⟨mrg1 m'⟩))
    (hk : HQ Try.prog C n Q L l ((d, .bool (!decide (m = m'))) :: env)) : HQ Try.prog C n Q L (⟨some d, .binOp .neq 51 x y t', ty, ps, af, g⟩ :: l) env :=
  q_y hg hd (fun a hA w _ => by
    simp only [execOp, hA.ev hx, hA.ev hy]
    refine run_bind (a := Value.bool (!decide (m = m'))) (w' := w) ?_
    refine (run_bind (a := ()) (w' := w) (run_eqGuard_agg _ _ _ _ _ _ _ (by kernel_rfl))).trans ?_
    exact mrg_neq2 m m' w) hk

theorem t_all {a b : VV} (h1 : a.texts.length = b.texts.length) (h3 : ∀ i, i < a.texts.length → a.t i = b.t i) : a.texts = b.texts :=
  (same_of (a := ⟨a.texts, []⟩) (b := ⟨b.texts, []⟩) h1 rfl h3 (fun i hi => absurd hi (Nat.not_lt_zero i))).1
theorem m_all {a b : VV} (h1 : a.merges.length = b.merges.length) (h3 : ∀ i, i < a.merges.length → a.m i = b.m i) : a.merges = b.merges :=
  (same_of (a := ⟨[], a.merges⟩) (b := ⟨[], b.merges⟩) rfl h1 (fun i hi => absurd hi (Nat.not_lt_zero i)) h3).2

theorem eqStr (A : Option Addr) (c : Nat) (A2 : Option Addr) (c2 : Nat) (v u : VV) (w : World) (hV : Cs w A (v.texts.map sv)) (hU : Cs w A2 (u.texts.map sv)) (hnt : v.texts.length ≤ 5000000) (hnt2 : u.texts.length ≤ 5000000) :
    CallsF Try.prog 37 [.slice A v.texts.length c, .slice A2 u.texts.length c2] w fun r w' => r = .bool (decide (v.texts = u.texts)) ∧ Fr no w w' := by
  have bad : ¬ v.texts = u.texts → decide (v.texts = u.texts) = false := fun h => decide_eq_false h
  refine callsF Try.func37 rfl rfl (by decide) rfl ?_
  repeat (first
    | refine stepF_ok tabOk [] (m := 400) rfl ?_
    | refine stepF_ok tabOk [] (m := 16) rfl ?_
    | refine stepF_ok tabOk [] (m := 3) rfl ?_
    | refine stepF_ok tabOk [] (m := 0) rfl ?_
    | refine ev_load rfl rfl tabOk rfl rfl (by assumption) ?_
    | refine ev_loadB rfl rfl tabOk rfl rfl (by assumption) (by rfl) ?_
    | refine ev_loadAggB rfl rfl tabOk rfl rfl (by assumption) (by rfl) ?_
    | refine ev_arith rfl rfl rfl rfl rfl (by simp only [lowK, hiK]; omega) ?_
    | refine ev_rem rfl rfl rfl rfl (by omega) (by omega) ?_
    | refine ev_quo rfl rfl rfl rfl (by omega) (by omega) (by simp only [hiK]; omega) ?_
    | refine ev_index rfl rfl tabOk rfl rfl rfl (by omega) (by omega) ?_
    | refine ev_indexA rfl rfl tabOk rfl rfl rfl (by omega) (by omega) rfl ?_
    | refine ev_convB rfl rfl tabOk rfl rfl rfl rfl ?_
    | refine ev_conv rfl rfl tabOk rfl rfl rfl (by simp only [lowK, hiK]; omega) ?_)
  refine ev_condD rfl (fun h1 => ?_) (fun h1 => ?_)
  · repeat (first
      | refine stepF_ok tabOk [] (m := 400) rfl ?_
      | refine stepF_ok tabOk [] (m := 16) rfl ?_
      | refine stepF_ok tabOk [] (m := 3) rfl ?_
      | refine stepF_ok tabOk [] (m := 0) rfl ?_
      | refine ev_load rfl rfl tabOk rfl rfl (by assumption) ?_
      | refine ev_loadB rfl rfl tabOk rfl rfl (by assumption) (by rfl) ?_
      | refine ev_loadAggB rfl rfl tabOk rfl rfl (by assumption) (by rfl) ?_
      | refine ev_arith rfl rfl rfl rfl rfl (by simp only [lowK, hiK]; omega) ?_
      | refine ev_rem rfl rfl rfl rfl (by omega) (by omega) ?_
      | refine ev_quo rfl rfl rfl rfl (by omega) (by omega) (by simp only [hiK]; omega) ?_
      | refine ev_index rfl rfl tabOk rfl rfl rfl (by omega) (by omega) ?_
      | refine ev_indexA rfl rfl tabOk rfl rfl rfl (by omega) (by omega) rfl ?_
      | refine ev_convB rfl rfl tabOk rfl rfl rfl rfl ?_
      | refine ev_conv rfl rfl tabOk rfl rfl rfl (by simp only [lowK, hiK]; omega) ?_)
    exact ret1 (.inr rfl) rfl rfl ⟨by rw [bad (fun h => h1 (by rw [h]))], Fr.refl _ _⟩
  have h1 : v.texts.length = u.texts.length := by omega
  repeat (first
    | refine stepF_ok tabOk [] (m := 400) rfl ?_
    | refine stepF_ok tabOk [] (m := 16) rfl ?_
    | refine stepF_ok tabOk [] (m := 3) rfl ?_
    | refine stepF_ok tabOk [] (m := 0) rfl ?_
    | refine ev_load rfl rfl tabOk rfl rfl (by assumption) ?_
    | refine ev_loadB rfl rfl tabOk rfl rfl (by assumption) (by rfl) ?_
    | refine ev_loadAggB rfl rfl tabOk rfl rfl (by assumption) (by rfl) ?_
    | refine ev_arith rfl rfl rfl rfl rfl (by simp only [lowK, hiK]; omega) ?_
    | refine ev_rem rfl rfl rfl rfl (by omega) (by omega) ?_
    | refine ev_quo rfl rfl rfl rfl (by omega) (by omega) (by simp only [hiK]; omega) ?_
    | refine ev_index rfl rfl tabOk rfl rfl rfl (by omega) (by omega) ?_
    | refine ev_indexA rfl rfl tabOk rfl rfl rfl (by omega) (by omega) rfl ?_
    | refine ev_convB rfl rfl tabOk rfl rfl rfl rfl ?_
    | refine ev_conv rfl rfl tabOk rfl rfl rfl (by simp only [lowK, hiK]; omega) ?_)
  refine ev_loop (α := Nat) (fun k => [(0, .slice A v.texts.length c), (1, .slice A2 u.texts.length c2), (12, i64 v.texts.length), (13, i64 k)])
    (fun k w' => k ≤ v.texts.length ∧ (∀ i, i < k → v.t i = u.t i) ∧ Fr no w w') (fun k => v.texts.length - k) 0 ⟨rfl, rfl, rfl, rfl, trivial⟩ ⟨Nat.zero_le _, fun j h => by omega, Fr.refl _ _⟩ ?_
  rintro k w2 ⟨hk, hall, hf⟩
  repeat (first
    | refine stepF_ok tabOk [] (m := 400) rfl ?_
    | refine stepF_ok tabOk [] (m := 16) rfl ?_
    | refine stepF_ok tabOk [] (m := 3) rfl ?_
    | refine stepF_ok tabOk [] (m := 0) rfl ?_
    | refine ev_load rfl rfl tabOk rfl rfl (by assumption) ?_
    | refine ev_loadB rfl rfl tabOk rfl rfl (by assumption) (by rfl) ?_
    | refine ev_loadAggB rfl rfl tabOk rfl rfl (by assumption) (by rfl) ?_
    | refine ev_arith rfl rfl rfl rfl rfl (by simp only [lowK, hiK]; omega) ?_
    | refine ev_rem rfl rfl rfl rfl (by omega) (by omega) ?_
    | refine ev_quo rfl rfl rfl rfl (by omega) (by omega) (by simp only [hiK]; omega) ?_
    | refine ev_index rfl rfl tabOk rfl rfl rfl (by omega) (by omega) ?_
    | refine ev_indexA rfl rfl tabOk rfl rfl rfl (by omega) (by omega) rfl ?_
    | refine ev_convB rfl rfl tabOk rfl rfl rfl rfl ?_
    | refine ev_conv rfl rfl tabOk rfl rfl rfl (by simp only [lowK, hiK]; omega) ?_)
  refine ev_condD rfl (fun hlt => ?_) (fun hlt => ?_)
  · have hk1 : k < v.texts.length := by omega
    obtain ⟨g, o, e1, hcx⟩ := strs_at (hV.fr0 hf) hk1
    subst e1
    obtain ⟨g2, o2, e2, hcy⟩ := strs_at (l := u.texts) (hU.fr0 hf) (j := k) (by omega)
    subst e2
    have hcx : w2.cell? ⟨g, o + (k : Int).toNat * 1, none⟩ = some (sv (v.t k)) := hcx
    have hcy : w2.cell? ⟨g2, o2 + (k : Int).toNat * 1, none⟩ = some (sv (u.t k)) := hcy
    repeat (first
      | refine stepF_ok tabOk [] (m := 400) rfl ?_
      | refine stepF_ok tabOk [] (m := 16) rfl ?_
      | refine stepF_ok tabOk [] (m := 3) rfl ?_
      | refine stepF_ok tabOk [] (m := 0) rfl ?_
      | refine ev_load rfl rfl tabOk rfl rfl (by assumption) ?_
      | refine ev_loadB rfl rfl tabOk rfl rfl (by assumption) (by rfl) ?_
      | refine ev_loadAggB rfl rfl tabOk rfl rfl (by assumption) (by rfl) ?_
      | refine ev_arith rfl rfl rfl rfl rfl (by simp only [lowK, hiK]; omega) ?_
      | refine ev_rem rfl rfl rfl rfl (by omega) (by omega) ?_
      | refine ev_quo rfl rfl rfl rfl (by omega) (by omega) (by simp only [hiK]; omega) ?_
      | refine ev_index rfl rfl tabOk rfl rfl rfl (by omega) (by omega) ?_
      | refine ev_indexA rfl rfl tabOk rfl rfl rfl (by omega) (by omega) rfl ?_
      | refine ev_convB rfl rfl tabOk rfl rfl rfl rfl ?_
      | refine ev_conv rfl rfl tabOk rfl rfl rfl (by simp only [lowK, hiK]; omega) ?_)
    refine ev_draw mixed (by kernel_rfl) ?_
    repeat (first
      | refine stepQF_ok tabOk (m := 400) rfl ?_
      | refine stepQF_ok tabOk (m := 16) rfl ?_
      | refine stepQF_ok tabOk (m := 3) rfl ?_
      | refine stepQF_ok tabOk (m := 0) rfl ?_
      | refine q_load rfl rfl tabOk rfl rfl (fun _ hf => cell_fr (by assumption) hf id) ?_
      | refine q_loadB rfl rfl tabOk rfl rfl (by assumption) (by rfl) ?_
      | refine q_loadAggB rfl rfl tabOk rfl rfl (by assumption) (by rfl) ?_
      | refine q_arith rfl rfl rfl rfl rfl (by simp only [lowK, hiK]; omega) ?_
      | refine q_rem rfl rfl rfl rfl (by omega) (by omega) ?_
      | refine q_quo rfl rfl rfl rfl (by omega) (by omega) (by simp only [hiK]; omega) ?_
      | refine q_index rfl rfl tabOk rfl rfl rfl (by omega) (by omega) ?_
      | refine q_convB rfl rfl tabOk rfl rfl rfl rfl ?_
      | refine q_conv rfl rfl tabOk rfl rfl rfl (by simp only [lowK, hiK]; omega) ?_)
    refine q_indexAddr (len := v.texts.length) (i := k) rfl rfl tabOk rfl rfl rfl (by omega) (by omega) ?_
    repeat (first
      | refine stepQF_ok tabOk (m := 400) rfl ?_
      | refine stepQF_ok tabOk (m := 16) rfl ?_
      | refine stepQF_ok tabOk (m := 3) rfl ?_
      | refine stepQF_ok tabOk (m := 0) rfl ?_
      | refine q_load rfl rfl tabOk rfl rfl (fun _ hf => cell_fr (by assumption) hf id) ?_
      | refine q_loadB rfl rfl tabOk rfl rfl (by assumption) (by rfl) ?_
      | refine q_loadAggB rfl rfl tabOk rfl rfl (by assumption) (by rfl) ?_
      | refine q_arith rfl rfl rfl rfl rfl (by simp only [lowK, hiK]; omega) ?_
      | refine q_rem rfl rfl rfl rfl (by omega) (by omega) ?_
      | refine q_quo rfl rfl rfl rfl (by omega) (by omega) (by simp only [hiK]; omega) ?_
      | refine q_index rfl rfl tabOk rfl rfl rfl (by omega) (by omega) ?_
      | refine q_convB rfl rfl tabOk rfl rfl rfl rfl ?_
      | refine q_conv rfl rfl tabOk rfl rfl rfl (by simp only [lowK, hiK]; omega) ?_)
    refine q_indexAddr (len := u.texts.length) (i := k) rfl rfl tabOk rfl rfl rfl (by omega) (by omega) ?_
    repeat (first
      | refine stepQF_ok tabOk (m := 400) rfl ?_
      | refine stepQF_ok tabOk (m := 16) rfl ?_
      | refine stepQF_ok tabOk (m := 3) rfl ?_
      | refine stepQF_ok tabOk (m := 0) rfl ?_
      | refine q_load rfl rfl tabOk rfl rfl (fun _ hf => cell_fr (by assumption) hf id) ?_
      | refine q_loadB rfl rfl tabOk rfl rfl (by assumption) (by rfl) ?_
      | refine q_loadAggB rfl rfl tabOk rfl rfl (by assumption) (by rfl) ?_
      | refine q_arith rfl rfl rfl rfl rfl (by simp only [lowK, hiK]; omega) ?_
      | refine q_rem rfl rfl rfl rfl (by omega) (by omega) ?_
      | refine q_quo rfl rfl rfl rfl (by omega) (by omega) (by simp only [hiK]; omega) ?_
      | refine q_index rfl rfl tabOk rfl rfl rfl (by omega) (by omega) ?_
      | refine q_convB rfl rfl tabOk rfl rfl rfl rfl ?_
      | refine q_conv rfl rfl tabOk rfl rfl rfl (by simp only [lowK, hiK]; omega) ?_)
    refine q_end fun w3 hf3 => ?_
    refine ev_condD rfl (fun h3 => ?_) (fun h3 => ?_)
    · repeat (first
        | refine stepF_ok tabOk [] (m := 400) rfl ?_
        | refine stepF_ok tabOk [] (m := 16) rfl ?_
        | refine stepF_ok tabOk [] (m := 3) rfl ?_
        | refine stepF_ok tabOk [] (m := 0) rfl ?_
        | refine ev_load rfl rfl tabOk rfl rfl (by assumption) ?_
        | refine ev_loadB rfl rfl tabOk rfl rfl (by assumption) (by rfl) ?_
        | refine ev_loadAggB rfl rfl tabOk rfl rfl (by assumption) (by rfl) ?_
        | refine ev_arith rfl rfl rfl rfl rfl (by simp only [lowK, hiK]; omega) ?_
        | refine ev_rem rfl rfl rfl rfl (by omega) (by omega) ?_
        | refine ev_quo rfl rfl rfl rfl (by omega) (by omega) (by simp only [hiK]; omega) ?_
        | refine ev_index rfl rfl tabOk rfl rfl rfl (by omega) (by omega) ?_
        | refine ev_indexA rfl rfl tabOk rfl rfl rfl (by omega) (by omega) rfl ?_
        | refine ev_convB rfl rfl tabOk rfl rfl rfl rfl ?_
        | refine ev_conv rfl rfl tabOk rfl rfl rfl (by simp only [lowK, hiK]; omega) ?_)
      exact ret1 (.inr rfl) rfl rfl ⟨by rw [bad (fun h => h3 (by unfold VV.t; rw [h]))], hf.tr hf3⟩
    · have h3 := Decidable.not_not.1 h3
      clear hcx hcy
      repeat (first
        | refine stepF_ok tabOk [] (m := 400) rfl ?_
        | refine stepF_ok tabOk [] (m := 16) rfl ?_
        | refine stepF_ok tabOk [] (m := 3) rfl ?_
        | refine stepF_ok tabOk [] (m := 0) rfl ?_
        | refine ev_load rfl rfl tabOk rfl rfl (by assumption) ?_
        | refine ev_loadB rfl rfl tabOk rfl rfl (by assumption) (by rfl) ?_
        | refine ev_loadAggB rfl rfl tabOk rfl rfl (by assumption) (by rfl) ?_
        | refine ev_arith rfl rfl rfl rfl rfl (by simp only [lowK, hiK]; omega) ?_
        | refine ev_rem rfl rfl rfl rfl (by omega) (by omega) ?_
        | refine ev_quo rfl rfl rfl rfl (by omega) (by omega) (by simp only [hiK]; omega) ?_
        | refine ev_index rfl rfl tabOk rfl rfl rfl (by omega) (by omega) ?_
        | refine ev_indexA rfl rfl tabOk rfl rfl rfl (by omega) (by omega) rfl ?_
        | refine ev_convB rfl rfl tabOk rfl rfl rfl rfl ?_
        | refine ev_conv rfl rfl tabOk rfl rfl rfl (by simp only [lowK, hiK]; omega) ?_)
      refine ev_next (k + 1) (by omega) ⟨by omega, fun i hi => ?_, hf.tr hf3⟩ ⟨rfl, rfl, rfl, rfl, trivial⟩
      by_cases e : i = k
      · subst e; exact h3
      · exact hall i (by omega)
  · have hkn : k = v.texts.length := by omega
    subst hkn
    repeat (first
      | refine stepF_ok tabOk [] (m := 400) rfl ?_
      | refine stepF_ok tabOk [] (m := 16) rfl ?_
      | refine stepF_ok tabOk [] (m := 3) rfl ?_
      | refine stepF_ok tabOk [] (m := 0) rfl ?_
      | refine ev_load rfl rfl tabOk rfl rfl (by assumption) ?_
      | refine ev_loadB rfl rfl tabOk rfl rfl (by assumption) (by rfl) ?_
      | refine ev_loadAggB rfl rfl tabOk rfl rfl (by assumption) (by rfl) ?_
      | refine ev_arith rfl rfl rfl rfl rfl (by simp only [lowK, hiK]; omega) ?_
      | refine ev_rem rfl rfl rfl rfl (by omega) (by omega) ?_
      | refine ev_quo rfl rfl rfl rfl (by omega) (by omega) (by simp only [hiK]; omega) ?_
      | refine ev_index rfl rfl tabOk rfl rfl rfl (by omega) (by omega) ?_
      | refine ev_indexA rfl rfl tabOk rfl rfl rfl (by omega) (by omega) rfl ?_
      | refine ev_convB rfl rfl tabOk rfl rfl rfl rfl ?_
      | refine ev_conv rfl rfl tabOk rfl rfl rfl (by simp only [lowK, hiK]; omega) ?_)
    exact ret1 (.inr rfl) rfl rfl ⟨by rw [decide_eq_true (t_all h1 hall)], hf⟩

theorem eqMrg (A : Option Addr) (c : Nat) (A2 : Option Addr) (c2 : Nat) (v u : VV) (w : World) (hV : Cs w A (mcs v.merges)) (hU : Cs w A2 (mcs u.merges)) (hnt : v.merges.length ≤ 5000000) (hnt2 : u.merges.length ≤ 5000000) :
    CallsF Try.prog 38 [.slice A v.merges.length c, .slice A2 u.merges.length c2] w fun r w' => r = .bool (decide (v.merges = u.merges)) ∧ Fr no w w' := by
  have bad : ¬ v.merges = u.merges → decide (v.merges = u.merges) = false := fun h => decide_eq_false h
  refine callsF Try.func38 rfl rfl (by decide) rfl ?_
  repeat (first
    | refine stepF_ok tabOk [] (m := 400) rfl ?_
    | refine stepF_ok tabOk [] (m := 16) rfl ?_
    | refine stepF_ok tabOk [] (m := 3) rfl ?_
    | refine stepF_ok tabOk [] (m := 0) rfl ?_
    | refine ev_load rfl rfl tabOk rfl rfl (by assumption) ?_
    | refine ev_loadB rfl rfl tabOk rfl rfl (by assumption) (by rfl) ?_
    | refine ev_loadAggB rfl rfl tabOk rfl rfl (by assumption) (by rfl) ?_
    | refine ev_arith rfl rfl rfl rfl rfl (by simp only [lowK, hiK]; omega) ?_
    | refine ev_rem rfl rfl rfl rfl (by omega) (by omega) ?_
    | refine ev_quo rfl rfl rfl rfl (by omega) (by omega) (by simp only [hiK]; omega) ?_
    | refine ev_index rfl rfl tabOk rfl rfl rfl (by omega) (by omega) ?_
    | refine ev_indexA rfl rfl tabOk rfl rfl rfl (by omega) (by omega) rfl ?_
    | refine ev_convB rfl rfl tabOk rfl rfl rfl rfl ?_
    | refine ev_conv rfl rfl tabOk rfl rfl rfl (by simp only [lowK, hiK]; omega) ?_)
  refine ev_condD rfl (fun h1 => ?_) (fun h1 => ?_)
  · repeat (first
      | refine stepF_ok tabOk [] (m := 400) rfl ?_
      | refine stepF_ok tabOk [] (m := 16) rfl ?_
      | refine stepF_ok tabOk [] (m := 3) rfl ?_
      | refine stepF_ok tabOk [] (m := 0) rfl ?_
      | refine ev_load rfl rfl tabOk rfl rfl (by assumption) ?_
      | refine ev_loadB rfl rfl tabOk rfl rfl (by assumption) (by rfl) ?_
      | refine ev_loadAggB rfl rfl tabOk rfl rfl (by assumption) (by rfl) ?_
      | refine ev_arith rfl rfl rfl rfl rfl (by simp only [lowK, hiK]; omega) ?_
      | refine ev_rem rfl rfl rfl rfl (by omega) (by omega) ?_
      | refine ev_quo rfl rfl rfl rfl (by omega) (by omega) (by simp only [hiK]; omega) ?_
      | refine ev_index rfl rfl tabOk rfl rfl rfl (by omega) (by omega) ?_
      | refine ev_indexA rfl rfl tabOk rfl rfl rfl (by omega) (by omega) rfl ?_
      | refine ev_convB rfl rfl tabOk rfl rfl rfl rfl ?_
      | refine ev_conv rfl rfl tabOk rfl rfl rfl (by simp only [lowK, hiK]; omega) ?_)
    exact ret1 (.inr rfl) rfl rfl ⟨by rw [bad (fun h => h1 (by rw [h]))], Fr.refl _ _⟩
  have h1 : v.merges.length = u.merges.length := by omega
  repeat (first
    | refine stepF_ok tabOk [] (m := 400) rfl ?_
    | refine stepF_ok tabOk [] (m := 16) rfl ?_
    | refine stepF_ok tabOk [] (m := 3) rfl ?_
    | refine stepF_ok tabOk [] (m := 0) rfl ?_
    | refine ev_load rfl rfl tabOk rfl rfl (by assumption) ?_
    | refine ev_loadB rfl rfl tabOk rfl rfl (by assumption) (by rfl) ?_
    | refine ev_loadAggB rfl rfl tabOk rfl rfl (by assumption) (by rfl) ?_
    | refine ev_arith rfl rfl rfl rfl rfl (by simp only [lowK, hiK]; omega) ?_
    | refine ev_rem rfl rfl rfl rfl (by omega) (by omega) ?_
    | refine ev_quo rfl rfl rfl rfl (by omega) (by omega) (by simp only [hiK]; omega) ?_
    | refine ev_index rfl rfl tabOk rfl rfl rfl (by omega) (by omega) ?_
    | refine ev_indexA rfl rfl tabOk rfl rfl rfl (by omega) (by omega) rfl ?_
    | refine ev_convB rfl rfl tabOk rfl rfl rfl rfl ?_
    | refine ev_conv rfl rfl tabOk rfl rfl rfl (by simp only [lowK, hiK]; omega) ?_)
  refine ev_loop (α := Nat) (fun k => [(0, .slice A v.merges.length c), (1, .slice A2 u.merges.length c2), (12, i64 v.merges.length), (13, i64 k)])
    (fun k w' => k ≤ v.merges.length ∧ (∀ i, i < k → v.m i = u.m i) ∧ Fr no w w') (fun k => v.merges.length - k) 0 ⟨rfl, rfl, rfl, rfl, trivial⟩ ⟨Nat.zero_le _, fun j h => by omega, Fr.refl _ _⟩ ?_
  rintro k w2 ⟨hk, hall, hf⟩
  repeat (first
    | refine stepF_ok tabOk [] (m := 400) rfl ?_
    | refine stepF_ok tabOk [] (m := 16) rfl ?_
    | refine stepF_ok tabOk [] (m := 3) rfl ?_
    | refine stepF_ok tabOk [] (m := 0) rfl ?_
    | refine ev_load rfl rfl tabOk rfl rfl (by assumption) ?_
    | refine ev_loadB rfl rfl tabOk rfl rfl (by assumption) (by rfl) ?_
    | refine ev_loadAggB rfl rfl tabOk rfl rfl (by assumption) (by rfl) ?_
    | refine ev_arith rfl rfl rfl rfl rfl (by simp only [lowK, hiK]; omega) ?_
    | refine ev_rem rfl rfl rfl rfl (by omega) (by omega) ?_
    | refine ev_quo rfl rfl rfl rfl (by omega) (by omega) (by simp only [hiK]; omega) ?_
    | refine ev_index rfl rfl tabOk rfl rfl rfl (by omega) (by omega) ?_
    | refine ev_indexA rfl rfl tabOk rfl rfl rfl (by omega) (by omega) rfl ?_
    | refine ev_convB rfl rfl tabOk rfl rfl rfl rfl ?_
    | refine ev_conv rfl rfl tabOk rfl rfl rfl (by simp only [lowK, hiK]; omega) ?_)
  refine ev_condD rfl (fun hlt => ?_) (fun hlt => ?_)
  · have hk1 : k < v.merges.length := by omega
    obtain ⟨g, o, e1, hcx⟩ := mrgs_at (l := v.merges) hV hk1
    subst e1
    obtain ⟨g2, o2, e2, hcy⟩ := mrgs_at (l := u.merges) hU (j := k) (by omega)
    subst e2
    have hcx : ∀ w', Fr no w2 w' → Cs w' (some ⟨g, o + (k : Int).toNat * 3, none⟩) (mrg1 (v.m k)) := fun w' hf' => hcx.fr0 (hf.tr hf')
    have hcy : ∀ w', Fr no w2 w' → Cs w' (some ⟨g2, o2 + (k : Int).toNat * 3, none⟩) (mrg1 (u.m k)) := fun w' hf' => hcy.fr0 (hf.tr hf')
    repeat (first
      | refine stepF_ok tabOk [] (m := 400) rfl ?_
      | refine stepF_ok tabOk [] (m := 16) rfl ?_
      | refine stepF_ok tabOk [] (m := 3) rfl ?_
      | refine stepF_ok tabOk [] (m := 0) rfl ?_
      | refine ev_load rfl rfl tabOk rfl rfl (by assumption) ?_
      | refine ev_loadB rfl rfl tabOk rfl rfl (by assumption) (by rfl) ?_
      | refine ev_loadAggB rfl rfl tabOk rfl rfl (by assumption) (by rfl) ?_
      | refine ev_arith rfl rfl rfl rfl rfl (by simp only [lowK, hiK]; omega) ?_
      | refine ev_rem rfl rfl rfl rfl (by omega) (by omega) ?_
      | refine ev_quo rfl rfl rfl rfl (by omega) (by omega) (by simp only [hiK]; omega) ?_
      | refine ev_index rfl rfl tabOk rfl rfl rfl (by omega) (by omega) ?_
      | refine ev_indexA rfl rfl tabOk rfl rfl rfl (by omega) (by omega) rfl ?_
      | refine ev_convB rfl rfl tabOk rfl rfl rfl rfl ?_
      | refine ev_conv rfl rfl tabOk rfl rfl rfl (by simp only [lowK, hiK]; omega) ?_)
    refine ev_draw mixed (by kernel_rfl) ?_
    repeat (first
      | refine stepQF_ok tabOk (m := 400) rfl ?_
      | refine stepQF_ok tabOk (m := 16) rfl ?_
      | refine stepQF_ok tabOk (m := 3) rfl ?_
      | refine stepQF_ok tabOk (m := 0) rfl ?_
      | refine q_load rfl rfl tabOk rfl rfl (fun _ hf => cell_fr (by assumption) hf id) ?_
      | refine q_loadB rfl rfl tabOk rfl rfl (by assumption) (by rfl) ?_
      | refine q_loadAggB rfl rfl tabOk rfl rfl (by assumption) (by rfl) ?_
      | refine q_arith rfl rfl rfl rfl rfl (by simp only [lowK, hiK]; omega) ?_
      | refine q_rem rfl rfl rfl rfl (by omega) (by omega) ?_
      | refine q_quo rfl rfl rfl rfl (by omega) (by omega) (by simp only [hiK]; omega) ?_
      | refine q_index rfl rfl tabOk rfl rfl rfl (by omega) (by omega) ?_
      | refine q_convB rfl rfl tabOk rfl rfl rfl rfl ?_
      | refine q_conv rfl rfl tabOk rfl rfl rfl (by simp only [lowK, hiK]; omega) ?_)
    refine q_indexAddr (len := v.merges.length) (i := k) rfl rfl tabOk rfl rfl rfl (by omega) (by omega) ?_
    refine q_loadAgg rfl rfl tabOk rfl rfl rfl hcx ?_
    repeat (first
      | refine stepQF_ok tabOk (m := 400) rfl ?_
      | refine stepQF_ok tabOk (m := 16) rfl ?_
      | refine stepQF_ok tabOk (m := 3) rfl ?_
      | refine stepQF_ok tabOk (m := 0) rfl ?_
      | refine q_load rfl rfl tabOk rfl rfl (fun _ hf => cell_fr (by assumption) hf id) ?_
      | refine q_loadB rfl rfl tabOk rfl rfl (by assumption) (by rfl) ?_
      | refine q_loadAggB rfl rfl tabOk rfl rfl (by assumption) (by rfl) ?_
      | refine q_arith rfl rfl rfl rfl rfl (by simp only [lowK, hiK]; omega) ?_
      | refine q_rem rfl rfl rfl rfl (by omega) (by omega) ?_
      | refine q_quo rfl rfl rfl rfl (by omega) (by omega) (by simp only [hiK]; omega) ?_
      | refine q_index rfl rfl tabOk rfl rfl rfl (by omega) (by omega) ?_
      | refine q_convB rfl rfl tabOk rfl rfl rfl rfl ?_
      | refine q_conv rfl rfl tabOk rfl rfl rfl (by simp only [lowK, hiK]; omega) ?_)
    refine q_indexAddr (len := u.merges.length) (i := k) rfl rfl tabOk rfl rfl rfl (by omega) (by omega) ?_
    refine q_loadAgg rfl rfl tabOk rfl rfl rfl hcy ?_
    refine q_mrgNeq2 (m := v.m k) (m' := u.m k) rfl rfl rfl rfl ?_
    refine q_end fun w3 hf3 => ?_
    refine ev_condND rfl (fun h3 => ?_) (fun h3 => ?_)
    · repeat (first
        | refine stepF_ok tabOk [] (m := 400) rfl ?_
        | refine stepF_ok tabOk [] (m := 16) rfl ?_
        | refine stepF_ok tabOk [] (m := 3) rfl ?_
        | refine stepF_ok tabOk [] (m := 0) rfl ?_
        | refine ev_load rfl rfl tabOk rfl rfl (by assumption) ?_
        | refine ev_loadB rfl rfl tabOk rfl rfl (by assumption) (by rfl) ?_
        | refine ev_loadAggB rfl rfl tabOk rfl rfl (by assumption) (by rfl) ?_
        | refine ev_arith rfl rfl rfl rfl rfl (by simp only [lowK, hiK]; omega) ?_
        | refine ev_rem rfl rfl rfl rfl (by omega) (by omega) ?_
        | refine ev_quo rfl rfl rfl rfl (by omega) (by omega) (by simp only [hiK]; omega) ?_
        | refine ev_index rfl rfl tabOk rfl rfl rfl (by omega) (by omega) ?_
        | refine ev_indexA rfl rfl tabOk rfl rfl rfl (by omega) (by omega) rfl ?_
        | refine ev_convB rfl rfl tabOk rfl rfl rfl rfl ?_
        | refine ev_conv rfl rfl tabOk rfl rfl rfl (by simp only [lowK, hiK]; omega) ?_)
      exact ret1 (.inr rfl) rfl rfl ⟨by rw [bad (fun h => h3 (by unfold VV.m; rw [h]))], hf.tr hf3⟩
    · clear hcx hcy
      repeat (first
        | refine stepF_ok tabOk [] (m := 400) rfl ?_
        | refine stepF_ok tabOk [] (m := 16) rfl ?_
        | refine stepF_ok tabOk [] (m := 3) rfl ?_
        | refine stepF_ok tabOk [] (m := 0) rfl ?_
        | refine ev_load rfl rfl tabOk rfl rfl (by assumption) ?_
        | refine ev_loadB rfl rfl tabOk rfl rfl (by assumption) (by rfl) ?_
        | refine ev_loadAggB rfl rfl tabOk rfl rfl (by assumption) (by rfl) ?_
        | refine ev_arith rfl rfl rfl rfl rfl (by simp only [lowK, hiK]; omega) ?_
        | refine ev_rem rfl rfl rfl rfl (by omega) (by omega) ?_
        | refine ev_quo rfl rfl rfl rfl (by omega) (by omega) (by simp only [hiK]; omega) ?_
        | refine ev_index rfl rfl tabOk rfl rfl rfl (by omega) (by omega) ?_
        | refine ev_indexA rfl rfl tabOk rfl rfl rfl (by omega) (by omega) rfl ?_
        | refine ev_convB rfl rfl tabOk rfl rfl rfl rfl ?_
        | refine ev_conv rfl rfl tabOk rfl rfl rfl (by simp only [lowK, hiK]; omega) ?_)
      refine ev_next (k + 1) (by omega) ⟨by omega, fun i hi => ?_, hf.tr hf3⟩ ⟨rfl, rfl, rfl, rfl, trivial⟩
      by_cases e : i = k
      · subst e; exact h3
      · exact hall i (by omega)
  · have hkn : k = v.merges.length := by omega
    subst hkn
    repeat (first
      | refine stepF_ok tabOk [] (m := 400) rfl ?_
      | refine stepF_ok tabOk [] (m := 16) rfl ?_
      | refine stepF_ok tabOk [] (m := 3) rfl ?_
      | refine stepF_ok tabOk [] (m := 0) rfl ?_
      | refine ev_load rfl rfl tabOk rfl rfl (by assumption) ?_
      | refine ev_loadB rfl rfl tabOk rfl rfl (by assumption) (by rfl) ?_
      | refine ev_loadAggB rfl rfl tabOk rfl rfl (by assumption) (by rfl) ?_
      | refine ev_arith rfl rfl rfl rfl rfl (by simp only [lowK, hiK]; omega) ?_
      | refine ev_rem rfl rfl rfl rfl (by omega) (by omega) ?_
      | refine ev_quo rfl rfl rfl rfl (by omega) (by omega) (by simp only [hiK]; omega) ?_
      | refine ev_index rfl rfl tabOk rfl rfl rfl (by omega) (by omega) ?_
      | refine ev_indexA rfl rfl tabOk rfl rfl rfl (by omega) (by omega) rfl ?_
      | refine ev_convB rfl rfl tabOk rfl rfl rfl rfl ?_
      | refine ev_conv rfl rfl tabOk rfl rfl rfl (by simp only [lowK, hiK]; omega) ?_)
    exact ret1 (.inr rfl) rfl rfl ⟨by rw [decide_eq_true (m_all h1 hall)], hf⟩

theorem wSame (A : Option Addr) (c : Nat) (B : Option Addr) (d : Nat) (v : VV) (A2 : Option Addr) (c2 : Nat) (B2 : Option Addr) (d2 : Nat) (u : VV) (w : World) (hV : Vo w A B v) (hU : Vo w A2 B2 u) (hS : VS v) (hS2 : VS u) :
    CallsF Try.prog 22 [vv A c B d v, vv A2 c2 B2 d2 u] w fun r w' => r = .bool (decide (v.same u)) ∧ Fr no w w' := by
  refine callsF Try.func22 rfl rfl (by decide) rfl ?_
  refine stepF_ok tabOk [] (m := 3) rfl ?_
  refine ev_box rfl rfl rfl (fun p wb hp hB hfb => ?_)
  have hB : Blk wb p [.slice A v.texts.length c, .slice B v.merges.length d] 25 := hB
  refine ev_box rfl rfl rfl (fun q w1 hq hQ hf1 => ?_)
  have hQ : Blk w1 q [.slice A2 u.texts.length c2, .slice B2 u.merges.length d2] 25 := hQ
  have hB := hB.fr0 hf1
  have hf01 := hfb.tr hf1
  clear hfb hf1
  repeat (first
    | refine stepF_ok tabOk [] (m := 400) rfl ?_
    | refine stepF_ok tabOk [] (m := 16) rfl ?_
    | refine stepF_ok tabOk [] (m := 3) rfl ?_
    | refine stepF_ok tabOk [] (m := 0) rfl ?_
    | refine ev_load rfl rfl tabOk rfl rfl (by assumption) ?_
    | refine ev_loadB rfl rfl tabOk rfl rfl (by assumption) (by rfl) ?_
    | refine ev_loadAggB rfl rfl tabOk rfl rfl (by assumption) (by rfl) ?_
    | refine ev_arith rfl rfl rfl rfl rfl (by simp only [lowK, hiK]; omega) ?_
    | refine ev_rem rfl rfl rfl rfl (by omega) (by omega) ?_
    | refine ev_quo rfl rfl rfl rfl (by omega) (by omega) (by simp only [hiK]; omega) ?_
    | refine ev_index rfl rfl tabOk rfl rfl rfl (by omega) (by omega) ?_
    | refine ev_indexA rfl rfl tabOk rfl rfl rfl (by omega) (by omega) rfl ?_
    | refine ev_convB rfl rfl tabOk rfl rfl rfl rfl ?_
    | refine ev_conv rfl rfl tabOk rfl rfl rfl (by simp only [lowK, hiK]; omega) ?_)
  refine ev_call rfl rfl rfl (eqStr A c A2 c2 v u _ (hV.fr0 hf01).1 (hU.fr0 hf01).1 hS.texts hS2.texts) (fun r w2 hr => ?_)
  obtain ⟨rfl, hf2⟩ := hr
  have hB2 := hB.fr0 hf2
  have hQ2 := hQ.fr0 hf2
  have hf02 := hf01.tr hf2
  clear hB hQ hf2
  by_cases h : v.texts = u.texts
  · rw [decide_eq_true h]
    repeat (first
      | refine stepF_ok tabOk [] (m := 400) rfl ?_
      | refine stepF_ok tabOk [] (m := 16) rfl ?_
      | refine stepF_ok tabOk [] (m := 3) rfl ?_
      | refine stepF_ok tabOk [] (m := 0) rfl ?_
      | refine ev_load rfl rfl tabOk rfl rfl (by assumption) ?_
      | refine ev_loadB rfl rfl tabOk rfl rfl (by assumption) (by rfl) ?_
      | refine ev_loadAggB rfl rfl tabOk rfl rfl (by assumption) (by rfl) ?_
      | refine ev_arith rfl rfl rfl rfl rfl (by simp only [lowK, hiK]; omega) ?_
      | refine ev_rem rfl rfl rfl rfl (by omega) (by omega) ?_
      | refine ev_quo rfl rfl rfl rfl (by omega) (by omega) (by simp only [hiK]; omega) ?_
      | refine ev_index rfl rfl tabOk rfl rfl rfl (by omega) (by omega) ?_
      | refine ev_indexA rfl rfl tabOk rfl rfl rfl (by omega) (by omega) rfl ?_
      | refine ev_convB rfl rfl tabOk rfl rfl rfl rfl ?_
      | refine ev_conv rfl rfl tabOk rfl rfl rfl (by simp only [lowK, hiK]; omega) ?_)
    refine ev_call rfl rfl rfl (eqMrg B d B2 d2 v u _ (hV.fr0 hf02).2 (hU.fr0 hf02).2 hS.merges hS2.merges) (fun r w3 hr => ?_)
    obtain ⟨rfl, hf3⟩ := hr
    repeat (first
      | refine stepF_ok tabOk [] (m := 400) rfl ?_
      | refine stepF_ok tabOk [] (m := 16) rfl ?_
      | refine stepF_ok tabOk [] (m := 3) rfl ?_
      | refine stepF_ok tabOk [] (m := 0) rfl ?_
      | refine ev_load rfl rfl tabOk rfl rfl (by assumption) ?_
      | refine ev_loadB rfl rfl tabOk rfl rfl (by assumption) (by rfl) ?_
      | refine ev_loadAggB rfl rfl tabOk rfl rfl (by assumption) (by rfl) ?_
      | refine ev_arith rfl rfl rfl rfl rfl (by simp only [lowK, hiK]; omega) ?_
      | refine ev_rem rfl rfl rfl rfl (by omega) (by omega) ?_
      | refine ev_quo rfl rfl rfl rfl (by omega) (by omega) (by simp only [hiK]; omega) ?_
      | refine ev_index rfl rfl tabOk rfl rfl rfl (by omega) (by omega) ?_
      | refine ev_indexA rfl rfl tabOk rfl rfl rfl (by omega) (by omega) rfl ?_
      | refine ev_convB rfl rfl tabOk rfl rfl rfl rfl ?_
      | refine ev_conv rfl rfl tabOk rfl rfl rfl (by simp only [lowK, hiK]; omega) ?_)
    exact ret1 (.inr rfl) rfl rfl ⟨congrArg Value.bool (decide_eq_decide.2 ⟨fun e => ⟨h, e⟩, fun e => e.2⟩), hf02.tr hf3⟩
  · rw [decide_eq_false h]
    repeat (first
      | refine stepF_ok tabOk [] (m := 400) rfl ?_
      | refine stepF_ok tabOk [] (m := 16) rfl ?_
      | refine stepF_ok tabOk [] (m := 3) rfl ?_
      | refine stepF_ok tabOk [] (m := 0) rfl ?_
      | refine ev_load rfl rfl tabOk rfl rfl (by assumption) ?_
      | refine ev_loadB rfl rfl tabOk rfl rfl (by assumption) (by rfl) ?_
      | refine ev_loadAggB rfl rfl tabOk rfl rfl (by assumption) (by rfl) ?_
      | refine ev_arith rfl rfl rfl rfl rfl (by simp only [lowK, hiK]; omega) ?_
      | refine ev_rem rfl rfl rfl rfl (by omega) (by omega) ?_
      | refine ev_quo rfl rfl rfl rfl (by omega) (by omega) (by simp only [hiK]; omega) ?_
      | refine ev_index rfl rfl tabOk rfl rfl rfl (by omega) (by omega) ?_
      | refine ev_indexA rfl rfl tabOk rfl rfl rfl (by omega) (by omega) rfl ?_
      | refine ev_convB rfl rfl tabOk rfl rfl rfl rfl ?_
      | refine ev_conv rfl rfl tabOk rfl rfl rfl (by simp only [lowK, hiK]; omega) ?_)
    exact ret1 (.inr rfl) rfl rfl ⟨by rw [decide_eq_false fun e => h e.1], hf02⟩

theorem lawSame (A : Option Addr) (c : Nat) (B : Option Addr) (d : Nat) (v : VV) (A2 : Option Addr) (c2 : Nat) (B2 : Option Addr) (d2 : Nat) (u : VV) (w : World) (hV : Vo w A B v) (hU : Vo w A2 B2 u) (hS : VS v) (hS2 : VS u) :
    CallsF Try.prog 9 [vv A c B d v, vv A2 c2 B2 d2 u] w fun r w' => r = .bool true ∧ Fr no w w' := by
  refine callsF Try.func9 rfl rfl (by decide) rfl ?_
  refine stepF_ok tabOk [] (m := 3) rfl ?_
  refine ev_box rfl rfl rfl (fun p wb hp hB hfb => ?_)
  have hB : Blk wb p [.slice A v.texts.length c, .slice B v.merges.length d] 25 := hB
  refine ev_box rfl rfl rfl (fun q w1 hq hQ hf1 => ?_)
  have hQ : Blk w1 q [.slice A2 u.texts.length c2, .slice B2 u.merges.length d2] 25 := hQ
  have hB := hB.fr0 hf1
  have hf01 := hfb.tr hf1
  clear hfb hf1
  have hV1 := hV.fr0 hf01
  have hU1 := hU.fr0 hf01
  have lB : ∀ w', Fr no w1 w' → Cs w' (some ⟨p, 0, none⟩) [.slice A v.texts.length c, .slice B v.merges.length d] := fun w' hf => Cs.of_blk (hB.fr0 hf)
  have lQ : ∀ w', Fr no w1 w' → Cs w' (some ⟨q, 0, none⟩) [.slice A2 u.texts.length c2, .slice B2 u.merges.length d2] := fun w' hf => Cs.of_blk (hQ.fr0 hf)
  repeat (first
    | refine stepF_ok tabOk [] (m := 400) rfl ?_
    | refine stepF_ok tabOk [] (m := 16) rfl ?_
    | refine stepF_ok tabOk [] (m := 3) rfl ?_
    | refine stepF_ok tabOk [] (m := 0) rfl ?_
    | refine ev_load rfl rfl tabOk rfl rfl (by assumption) ?_
    | refine ev_loadB rfl rfl tabOk rfl rfl (by assumption) (by rfl) ?_
    | refine ev_loadAggB rfl rfl tabOk rfl rfl (by assumption) (by rfl) ?_
    | refine ev_arith rfl rfl rfl rfl rfl (by simp only [lowK, hiK]; omega) ?_
    | refine ev_rem rfl rfl rfl rfl (by omega) (by omega) ?_
    | refine ev_quo rfl rfl rfl rfl (by omega) (by omega) (by simp only [hiK]; omega) ?_
    | refine ev_index rfl rfl tabOk rfl rfl rfl (by omega) (by omega) ?_
    | refine ev_indexA rfl rfl tabOk rfl rfl rfl (by omega) (by omega) rfl ?_
    | refine ev_convB rfl rfl tabOk rfl rfl rfl rfl ?_
    | refine ev_conv rfl rfl tabOk rfl rfl rfl (by simp only [lowK, hiK]; omega) ?_)
  refine mixC_in (fun w' => Fr no w1 w') mixed (fun w3 hf3 => ?_)
  refine mix1 rfl rfl ?_ hf3
  refine ev_call rfl rfl rfl (lawAwake _) (fun r w4 hr => ?_)
  obtain ⟨rfl, hf4⟩ := hr
  have hf4 := hf3.tr hf4
  refine mix_op ?_
  refine mix_run 400 tabOk rfl (by kernel_rfl) (by kernel_rfl) ?_
  refine m_loadAgg 2 rfl rfl rfl (by kernel_rfl) (by kernel_rfl) rfl rfl tabOk rfl rfl rfl lB ?_
  refine m_loadAgg 3 rfl rfl rfl (by kernel_rfl) (by kernel_rfl) rfl rfl tabOk rfl rfl rfl lQ ?_
  refine m_loadAgg 5 rfl rfl rfl (by kernel_rfl) (by kernel_rfl) rfl rfl tabOk rfl rfl rfl lB ?_
  refine m_loadAgg 7 rfl rfl rfl (by kernel_rfl) (by kernel_rfl) rfl rfl tabOk rfl rfl rfl lQ ?_
  refine mix1 rfl rfl ?_ hf4
  refine ev_call rfl rfl rfl (wSame A c B d v A2 c2 B2 d2 u _ (hV1.fr0 hf4) (hU1.fr0 hf4) hS hS2) (fun r w5 hr => ?_)
  obtain ⟨rfl, hf5⟩ := hr
  have hf5 := hf4.tr hf5
  refine mix_op ?_
  refine mix1 rfl rfl ?_ hf5
  refine ev_call rfl rfl rfl (wGiven A c B d v _ (hV1.fr0 hf5) hS) (fun r w6 hr => ?_)
  obtain ⟨⟨A6, c6, B6, d6, rfl, hV6⟩, hf6⟩ := hr
  have hf61 := hf5.tr hf6
  refine mix_op ?_
  refine mix1 rfl rfl ?_ hf61
  refine ev_call rfl rfl rfl (wGiven A2 c2 B2 d2 u _ (hU1.fr0 hf61) hS2) (fun r w7 hr => ?_)
  obtain ⟨⟨A7, c7, B7, d7, rfl, hU7⟩, hf7⟩ := hr
  have hf71 := hf61.tr hf7
  refine mix_op ?_
  refine mix1 rfl rfl ?_ hf71
  refine ev_call rfl rfl rfl (refSame A6 c6 B6 d6 v A7 c7 B7 d7 u _ (hV6.fr0 hf7) hU7 hS hS2) (fun r w8 hr => ?_)
  obtain ⟨rfl, hf8⟩ := hr
  have hf81 := hf71.tr hf8
  have hsym : u.same v ↔ v.same u := ⟨fun h => ⟨h.1.symm, h.2.symm⟩, fun h => ⟨h.1.symm, h.2.symm⟩⟩
  have hvv := decide_eq_true v.same_refl
  obtain ⟨b, hb⟩ : ∃ b, b = decide (v.same u) := ⟨_, rfl⟩
  have hb2 : decide (u.same v) = b := hb ▸ decide_eq_decide.2 hsym
  rw [← hb]
  refine mix_op ?_
  cases b with
  | true =>
    refine mix_run 400 tabOk rfl (by kernel_rfl) (by kernel_rfl) ?_
    refine m_loadAgg 13 rfl rfl rfl (by kernel_rfl) (by kernel_rfl) rfl rfl tabOk rfl rfl rfl lB ?_
    refine m_loadAgg 14 rfl rfl rfl (by kernel_rfl) (by kernel_rfl) rfl rfl tabOk rfl rfl rfl lB ?_
    refine mix1 rfl rfl ?_ hf81
    refine ev_call rfl rfl rfl (wSame A c B d v A c B d v _ (hV1.fr0 hf81) (hV1.fr0 hf81) hS hS) (fun r w9 hr => ?_)
    obtain ⟨rfl, hf9⟩ := hr
    have hf91 := hf81.tr hf9
    rw [hvv]
    refine mix_op ?_
    refine mix_run 400 tabOk rfl (by kernel_rfl) (by kernel_rfl) ?_
    refine m_loadAgg 18 rfl rfl rfl (by kernel_rfl) (by kernel_rfl) rfl rfl tabOk rfl rfl rfl lQ ?_
    refine m_loadAgg 19 rfl rfl rfl (by kernel_rfl) (by kernel_rfl) rfl rfl tabOk rfl rfl rfl lB ?_
    refine m_loadAgg 21 rfl rfl rfl (by kernel_rfl) (by kernel_rfl) rfl rfl tabOk rfl rfl rfl lB ?_
    refine m_loadAgg 22 rfl rfl rfl (by kernel_rfl) (by kernel_rfl) rfl rfl tabOk rfl rfl rfl lQ ?_
    refine mix1 rfl rfl ?_ hf91
    refine ev_call rfl rfl rfl (wSame A2 c2 B2 d2 u A c B d v _ (hU1.fr0 hf91) (hV1.fr0 hf91) hS2 hS) (fun r w10 hr => ?_)
    obtain ⟨rfl, hf10⟩ := hr
    have hf101 := hf91.tr hf10
    rw [hb2]
    refine mix_op ?_
    refine mix1 rfl rfl ?_ hf101
    refine ev_call rfl rfl rfl (wSame A c B d v A2 c2 B2 d2 u _ (hV1.fr0 hf101) (hU1.fr0 hf101) hS hS2) (fun r w11 hr => ?_)
    obtain ⟨rfl, hf11⟩ := hr
    have hf111 := hf101.tr hf11
    rw [← hb]
    refine mix_op ?_
    refine mix_run 400 tabOk rfl (by kernel_rfl) (by kernel_rfl) ?_
    refine mix_out rfl ?_ hf111
    repeat (first
      | refine stepF_ok tabOk [] (m := 400) rfl ?_
      | refine stepF_ok tabOk [] (m := 16) rfl ?_
      | refine stepF_ok tabOk [] (m := 3) rfl ?_
      | refine stepF_ok tabOk [] (m := 0) rfl ?_
      | refine ev_load rfl rfl tabOk rfl rfl (by assumption) ?_
      | refine ev_loadB rfl rfl tabOk rfl rfl (by assumption) (by rfl) ?_
      | refine ev_loadAggB rfl rfl tabOk rfl rfl (by assumption) (by rfl) ?_
      | refine ev_arith rfl rfl rfl rfl rfl (by simp only [lowK, hiK]; omega) ?_
      | refine ev_rem rfl rfl rfl rfl (by omega) (by omega) ?_
      | refine ev_quo rfl rfl rfl rfl (by omega) (by omega) (by simp only [hiK]; omega) ?_
      | refine ev_index rfl rfl tabOk rfl rfl rfl (by omega) (by omega) ?_
      | refine ev_indexA rfl rfl tabOk rfl rfl rfl (by omega) (by omega) rfl ?_
      | refine ev_convB rfl rfl tabOk rfl rfl rfl rfl ?_
      | refine ev_conv rfl rfl tabOk rfl rfl rfl (by simp only [lowK, hiK]; omega) ?_)
    exact ret1 (.inr rfl) rfl rfl ⟨rfl, hf01.tr hf111⟩
  | false =>
    refine mix_run 400 tabOk rfl (by kernel_rfl) (by kernel_rfl) ?_
    refine m_loadAgg 13 rfl rfl rfl (by kernel_rfl) (by kernel_rfl) rfl rfl tabOk rfl rfl rfl lB ?_
    refine m_loadAgg 14 rfl rfl rfl (by kernel_rfl) (by kernel_rfl) rfl rfl tabOk rfl rfl rfl lB ?_
    refine mix1 rfl rfl ?_ hf81
    refine ev_call rfl rfl rfl (wSame A c B d v A c B d v _ (hV1.fr0 hf81) (hV1.fr0 hf81) hS hS) (fun r w9 hr => ?_)
    obtain ⟨rfl, hf9⟩ := hr
    have hf91 := hf81.tr hf9
    rw [hvv]
    refine mix_op ?_
    refine mix_run 400 tabOk rfl (by kernel_rfl) (by kernel_rfl) ?_
    refine m_loadAgg 18 rfl rfl rfl (by kernel_rfl) (by kernel_rfl) rfl rfl tabOk rfl rfl rfl lQ ?_
    refine m_loadAgg 19 rfl rfl rfl (by kernel_rfl) (by kernel_rfl) rfl rfl tabOk rfl rfl rfl lB ?_
    refine m_loadAgg 21 rfl rfl rfl (by kernel_rfl) (by kernel_rfl) rfl rfl tabOk rfl rfl rfl lB ?_
    refine m_loadAgg 22 rfl rfl rfl (by kernel_rfl) (by kernel_rfl) rfl rfl tabOk rfl rfl rfl lQ ?_
    refine mix1 rfl rfl ?_ hf91
    refine ev_call rfl rfl rfl (wSame A2 c2 B2 d2 u A c B d v _ (hU1.fr0 hf91) (hV1.fr0 hf91) hS2 hS) (fun r w10 hr => ?_)
    obtain ⟨rfl, hf10⟩ := hr
    have hf101 := hf91.tr hf10
    rw [hb2]
    refine mix_op ?_
    refine mix1 rfl rfl ?_ hf101
    refine ev_call rfl rfl rfl (wSame A c B d v A2 c2 B2 d2 u _ (hV1.fr0 hf101) (hU1.fr0 hf101) hS hS2) (fun r w11 hr => ?_)
    obtain ⟨rfl, hf11⟩ := hr
    have hf111 := hf101.tr hf11
    rw [← hb]
    refine mix_op ?_
    refine mix_run 400 tabOk rfl (by kernel_rfl) (by kernel_rfl) ?_
    refine mix_out rfl ?_ hf111
    repeat (first
      | refine stepF_ok tabOk [] (m := 400) rfl ?_
      | refine stepF_ok tabOk [] (m := 16) rfl ?_
      | refine stepF_ok tabOk [] (m := 3) rfl ?_
      | refine stepF_ok tabOk [] (m := 0) rfl ?_
      | refine ev_load rfl rfl tabOk rfl rfl (by assumption) ?_
      | refine ev_loadB rfl rfl tabOk rfl rfl (by assumption) (by rfl) ?_
      | refine ev_loadAggB rfl rfl tabOk rfl rfl (by assumption) (by rfl) ?_
      | refine ev_arith rfl rfl rfl rfl rfl (by simp only [lowK, hiK]; omega) ?_
      | refine ev_rem rfl rfl rfl rfl (by omega) (by omega) ?_
      | refine ev_quo rfl rfl rfl rfl (by omega) (by omega) (by simp only [hiK]; omega) ?_
      | refine ev_index rfl rfl tabOk rfl rfl rfl (by omega) (by omega) ?_
      | refine ev_indexA rfl rfl tabOk rfl rfl rfl (by omega) (by omega) rfl ?_
      | refine ev_convB rfl rfl tabOk rfl rfl rfl rfl ?_
      | refine ev_conv rfl rfl tabOk rfl rfl rfl (by simp only [lowK, hiK]; omega) ?_)
    exact ret1 (.inr rfl) rfl rfl ⟨rfl, hf01.tr hf111⟩
end Go.Wk.Ytjdfdahdobikmaa
