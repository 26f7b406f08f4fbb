/-
  The walks of chapter 13: two vocabularies that are the same (the document's side).
-/
import Derived.Test.YtfgllkflnkolhaaDoorVoC
set_option linter.unusedVariables false
namespace Go.Wk.YtfgllkflnkolhaaDoor
open Go Go.Wk Go.Proofs

theorem mcs_take {l : List Mrg} {k : Nat} (h : k < l.length) : mcs (l.take (k + 1)) = mcs (l.take k) ++ flatV [mrgV (l.getD k (0, 0, 0))] := by
  unfold mcs
  rw [List.take_add_one, List.getElem?_eq_getElem h, List.getD_eq_getElem?_getD, List.getElem?_eq_getElem h, List.flatMap_append]
  simp [flatV, mrg1, Value.cells]

theorem q_mrgNeq {C : World → Prop} {n : Nat} {Q : Act → Prop} {L l : List Oper} {env : Env} {d : Nat} {ty t' : TypeId} {ps : String} {af : Array Edge} {g : Option (Nat × Bool)} {x y : Operand} {m m' : Mrg}
    (hg : guardOf L env g = some true) (hd : Nat.blt d n = true) (hx : ev env x = some (.agg ⟨mrg1 m⟩)) (hy : ev env y = some (.agg ⟨mrg1 m'⟩))
    (hk : HQ Tryd.prog C n Q L l ((d, .bool (!decide (m = m'))) :: env)) : HQ Tryd.prog C n Q L (⟨some d, .binOp .neq 123 x y t', ty, ps, af, g⟩ :: l) env :=
  q_y hg hd (fun a hA w _ => by
    simp only [execOp, hA.ev hx, hA.ev hy]
    refine run_bind (a := Value.bool (!decide (m = m'))) (w' := w) ?_
    refine (run_bind (a := ()) (w' := w) (run_eqGuard_agg _ _ _ _ _ _ _ (by kernel_rfl))).trans ?_
    exact mrg_neq m m' w) hk

def VV.same (a b : VV) : Prop := a.texts = b.texts ∧ a.merges = b.merges
instance (a b : VV) : Decidable (a.same b) := by unfold VV.same; infer_instance
theorem VV.same_refl (a : VV) : a.same a := ⟨rfl, rfl⟩
theorem same_of {a b : VV} (h1 : a.texts.length = b.texts.length) (h2 : a.merges.length = b.merges.length) (h3 : ∀ i, i < a.texts.length → a.t i = b.t i) (h4 : ∀ i, i < a.merges.length → a.m i = b.m i) : a.same b := by
  refine ⟨List.ext_getElem h1 fun i hi hj => ?_, List.ext_getElem h2 fun i hi hj => ?_⟩
  · have := h3 i hi
    unfold VV.t at this
    rw [List.getD_eq_getElem?_getD, List.getD_eq_getElem?_getD, List.getElem?_eq_getElem hi, List.getElem?_eq_getElem hj] at this
    exact this
  · have := h4 i hi
    unfold VV.m at this
    rw [List.getD_eq_getElem?_getD, List.getD_eq_getElem?_getD, List.getElem?_eq_getElem hi, List.getElem?_eq_getElem hj] at this
    exact this
theorem VV.same_t {a b : VV} (h : a.same b) (i : Nat) : a.t i = b.t i := by unfold VV.t; rw [h.1]
theorem VV.same_m {a b : VV} (h : a.same b) (i : Nat) : a.m i = b.m i := by unfold VV.m; rw [h.2]

theorem refSame (A : Option Addr) (c : Nat) (B : Option Addr) (d : Nat) (v : VV) (A2 : Option Addr) (c2 : Nat) (B2 : Option Addr) (d2 : Nat) (u : VV) (w : World) (hV : Vo w A B v) (hU : Vo w A2 B2 u) (hS : VS v) (hS2 : VS u) :
    CallsF Tryd.prog 51 [vv A c B d v, vv A2 c2 B2 d2 u] w fun r w' => r = .bool (decide (v.same u)) ∧ Fr no w w' := by
  have hn := hS.merges
  have hnt := hS.texts
  have hn2 := hS2.merges
  have hnt2 := hS2.texts
  have bad : ¬ v.same u → decide (v.same u) = false := fun h => decide_eq_false h
  refine callsF Tryd.func51 rfl rfl (by decide) rfl ?_
  refine stepF_ok tabOk [] (m := 3) rfl ?_
  refine ev_box rfl rfl rfl (fun p wb hp hB hfb => ?_)
  have hB : Blk wb p [.slice A v.texts.length c, .slice B v.merges.length d] 39 := hB
  refine ev_box rfl rfl rfl (fun q w1 hq hQ hf1 => ?_)
  have hQ : Blk w1 q [.slice A2 u.texts.length c2, .slice B2 u.merges.length d2] 39 := hQ
  have hB := hB.fr0 hf1
  have hf01 := hfb.tr hf1
  clear hfb hf1
  refine sA [] rfl ?_; refine ev_loadB rfl rfl tabOk rfl rfl ‹_› (by rfl) ?_; refine sA [] rfl ?_; refine ev_loadB rfl rfl tabOk rfl rfl ‹_› (by rfl) ?_; refine sD [] rfl ?_; refine sD [] rfl ?_; refine sD [] rfl ?_
  by_cases h1 : ¬ v.texts.length = u.texts.length
  · rw [show decide (¬ (v.texts.length : Int) = u.texts.length) = true from decide_eq_true (by omega)]
    refine sA [] rfl ?_
    exact ret1 (.inr rfl) rfl rfl ⟨by rw [bad (fun h => h1 (congrArg List.length h.1))], hf01⟩
  have h1 := Decidable.not_not.1 h1
  rw [show decide (¬ (v.texts.length : Int) = u.texts.length) = false from decide_eq_false (by omega)]
  refine sA [] rfl ?_; refine ev_loadB rfl rfl tabOk rfl rfl ‹_› (by rfl) ?_; refine sA [] rfl ?_; refine ev_loadB rfl rfl tabOk rfl rfl ‹_› (by rfl) ?_; refine sC [] rfl ?_
  refine ev_condD rfl (fun h2 => ?_) (fun h2 => ?_)
  · refine sA [] rfl ?_
    exact ret1 (.inr rfl) rfl rfl ⟨by rw [bad (fun h => h2 (by rw [h.2]))], hf01⟩
  have h2 : v.merges.length = u.merges.length := by omega
  refine sA [] rfl ?_
  refine ev_loop (α := Nat) (fun k => [(2, .pointer (some ⟨p, 0, none⟩)), (3, .pointer (some ⟨q, 0, none⟩)), (5, i64 k)])
    (fun k w' => k ≤ v.texts.length ∧ (∀ i, i < k → v.t i = u.t i) ∧ Fr no w w' ∧ Blk w' p [.slice A v.texts.length c, .slice B v.merges.length d] 39 ∧ Blk w' q [.slice A2 u.texts.length c2, .slice B2 u.merges.length d2] 39) (fun k => v.texts.length - k) 0 ⟨rfl, rfl, rfl, trivial⟩ ⟨Nat.zero_le _, fun j h => by omega, hf01, hB, hQ⟩ ?_
  clear hB hQ hf01
  rintro k w2 ⟨hk, hall, hf, hB, hQ⟩
  refine sA [] rfl ?_; refine ev_loadB rfl rfl tabOk rfl rfl ‹_› (by rfl) ?_; refine sD [] rfl ?_; refine sD [] rfl ?_; refine sD [] rfl ?_
  refine ev_condD rfl (fun hlt => ?_) (fun hlt => ?_)
  · have hk1 : k < v.texts.length := by omega
    obtain ⟨g, o, e1, hcx⟩ := strs_at (hV.fr0 hf).1 hk1
    subst e1
    obtain ⟨g2, o2, e2, hcy⟩ := strs_at (hU.fr0 hf).1 (j := k) (by omega)
    subst e2
    have hcx : w2.cell? ⟨g, o + (k : Int).toNat * 1, none⟩ = some (sv (v.t k)) := hcx
    have hcy : w2.cell? ⟨g2, o2 + (k : Int).toNat * 1, none⟩ = some (sv (u.t k)) := hcy
    refine sA [] rfl ?_
    refine ev_draw mixed (by kernel_rfl) ?_
    refine qA rfl ?_; refine q_loadB rfl rfl tabOk rfl rfl ‹_› (by rfl) ?_; refine qA rfl ?_
    refine q_indexAddr (len := v.texts.length) (i := k) rfl rfl tabOk rfl rfl rfl (by omega) (by omega) ?_
    refine q_load rfl rfl tabOk rfl rfl (fun _ hf => cell_fr (by assumption) hf id) ?_; refine qA rfl ?_; refine q_loadB rfl rfl tabOk rfl rfl ‹_› (by rfl) ?_; refine qA rfl ?_
    refine q_indexAddr (len := u.texts.length) (i := k) rfl rfl tabOk rfl rfl rfl (by omega) (by omega) ?_
    refine q_load rfl rfl tabOk rfl rfl (fun _ hf => cell_fr (by assumption) hf id) ?_; refine qA rfl ?_
    refine q_end fun w3 hf3 => ?_
    refine ev_condD rfl (fun h3 => ?_) (fun h3 => ?_)
    · refine sA [] rfl ?_
      exact ret1 (.inr rfl) rfl rfl ⟨by rw [bad (fun h => h3 (VV.same_t h k))], hf.tr hf3⟩
    · have hB3 := hB.fr0 hf3
      have hQ3 := hQ.fr0 hf3
      have h3 := Decidable.not_not.1 h3
      clear hB hQ hcx hcy
      refine sA [] rfl ?_; refine ev_arith rfl rfl rfl rfl rfl (by simp only [lowK, hiK]; omega) ?_; refine sA [] rfl ?_
      refine ev_next (k + 1) (by omega) ⟨by omega, fun i hi => ?_, hf.tr hf3, hB3, hQ3⟩ ⟨rfl, rfl, rfl, trivial⟩
      by_cases e : i = k
      · subst e; exact h3
      · exact hall i (by omega)
  · have hkn : k = v.texts.length := by omega
    subst hkn
    refine sA [] rfl ?_
    refine ev_loop (α := Nat) (fun k => [(2, .pointer (some ⟨p, 0, none⟩)), (3, .pointer (some ⟨q, 0, none⟩)), (6, i64 k)])
      (fun k w' => k ≤ v.merges.length ∧ (∀ i, i < k → v.m i = u.m i) ∧ Fr no w w' ∧ Blk w' p [.slice A v.texts.length c, .slice B v.merges.length d] 39 ∧ Blk w' q [.slice A2 u.texts.length c2, .slice B2 u.merges.length d2] 39) (fun k => v.merges.length - k) 0 ⟨rfl, rfl, rfl, trivial⟩ ⟨Nat.zero_le _, fun j h => by omega, hf, hB, hQ⟩ ?_
    clear hB hQ hf
    rintro k w2 ⟨hk, hallM, hf, hB, hQ⟩
    refine sA [] rfl ?_; refine ev_loadB rfl rfl tabOk rfl rfl ‹_› (by rfl) ?_; refine sD [] rfl ?_; refine sD [] rfl ?_; refine sD [] rfl ?_
    refine ev_condD rfl (fun hlt => ?_) (fun hlt => ?_)
    · have hk1 : k < v.merges.length := by omega
      obtain ⟨g, o, e1, hcx⟩ := mrgs_at hV.2 hk1
      subst e1
      obtain ⟨g2, o2, e2, hcy⟩ := mrgs_at hU.2 (j := k) (by omega)
      subst e2
      have hcx : ∀ w', Fr no w2 w' → Cs w' (some ⟨g, o + (k : Int).toNat * 3, none⟩) (mrg1 (v.m k)) := fun w' hf' => hcx.fr0 (hf.tr hf')
      have hcy : ∀ w', Fr no w2 w' → Cs w' (some ⟨g2, o2 + (k : Int).toNat * 3, none⟩) (mrg1 (u.m k)) := fun w' hf' => hcy.fr0 (hf.tr hf')
      refine sA [] rfl ?_
      refine ev_draw mixed (by kernel_rfl) ?_
      refine qA rfl ?_; refine q_loadB rfl rfl tabOk rfl rfl ‹_› (by rfl) ?_; refine qA rfl ?_
      refine q_indexAddr (len := v.merges.length) (i := k) rfl rfl tabOk rfl rfl rfl (by omega) (by omega) ?_
      refine q_loadAgg rfl rfl tabOk rfl rfl rfl hcx ?_
      refine qA rfl ?_; refine q_loadB rfl rfl tabOk rfl rfl ‹_› (by rfl) ?_; refine qA rfl ?_
      refine q_indexAddr (len := u.merges.length) (i := k) rfl rfl tabOk rfl rfl rfl (by omega) (by omega) ?_
      refine q_loadAgg rfl rfl tabOk rfl rfl rfl hcy ?_
      refine q_mrgNeq (m := v.m k) (m' := u.m k) rfl rfl rfl rfl ?_
      skip
      refine q_end fun w3 hf3 => ?_
      refine ev_condND rfl (fun h3 => ?_) (fun h3 => ?_)
      · refine sA [] rfl ?_
        exact ret1 (.inr rfl) rfl rfl ⟨by rw [bad (fun h => h3 (VV.same_m h k))], hf.tr hf3⟩
      · have hB3 := hB.fr0 hf3
        have hQ3 := hQ.fr0 hf3
        clear hB hQ hcx hcy
        refine sA [] rfl ?_; refine ev_arith rfl rfl rfl rfl rfl (by simp only [lowK, hiK]; omega) ?_; refine sA [] rfl ?_
        refine ev_next (k + 1) (by omega) ⟨by omega, fun i hi => ?_, hf.tr hf3, hB3, hQ3⟩ ⟨rfl, rfl, rfl, trivial⟩
        by_cases e : i = k
        · subst e; exact h3
        · exact hallM i (by omega)
    · have hkn : k = v.merges.length := by omega
      subst hkn
      refine sA [] rfl ?_
      exact ret1 (.inr rfl) rfl rfl ⟨by rw [decide_eq_true (same_of h1 h2 hall hallM)], hf⟩

end Go.Wk.YtfgllkflnkolhaaDoor
