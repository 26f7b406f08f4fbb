/-
  The walks of chapter 13: Decode, the program's and the document's; both are awake.
-/
import Derived.Test.YtjdfdahdobikmaaVoH
import Derived.Test.YtjdfdahdobikmaaVoBd
set_option linter.unusedVariables false
namespace Go.Wk.Ytjdfdahdobikmaa
open Go Go.Wk Go.Proofs

abbrev decR (v : VV) (l : List Int) : Value := .tuple #[sv (v.dec l).1, i64 (v.dec l).2.1, i64 (v.dec l).2.2]

set_option maxHeartbeats 1000000 in
theorem wDecode (A : Option Addr) (c : Nat) (B : Option Addr) (d : Nat) (v : VV) (C : Option Addr) (e : Nat) (l : List Int) (w : World) (hV : Vo w A B v) (hS : VS v) (hC : Cs w C (l.map i64)) (hl : l.length ≤ 20000000) :
    CallsF Try.prog 20 [vv A c B d v, .slice C l.length e] w fun r w' => r = decR v l ∧ Fr no w w' := by
  have hn := hS.merges
  have hnt := hS.texts
  refine callsF Try.func20 rfl rfl (by decide) rfl ?_
  refine stepF_ok tabOk [] (m := 3) rfl ?_
  refine ev_box rfl rfl rfl (fun p wb hp hB hfb => ?_)
  have hB : Blk wb p [.slice A v.texts.length c, .slice B v.merges.length d] 25 := hB
  have hzb := hfb.size
  repeat (first
    | refine stepF_ok tabOk [] (m := 400) rfl ?_
    | refine stepF_ok tabOk [] (m := 16) rfl ?_
    | refine stepF_ok tabOk [] (m := 3) rfl ?_
    | refine stepF_ok tabOk [] (m := 0) rfl ?_
    | refine ev_load rfl rfl tabOk rfl rfl (by assumption) ?_
    | refine ev_loadB rfl rfl tabOk rfl rfl (by assumption) (by rfl) ?_
    | refine ev_loadAggB rfl rfl tabOk rfl rfl (by assumption) (by rfl) ?_
    | refine ev_arith rfl rfl rfl rfl rfl (by simp only [lowK, hiK]; omega) ?_
    | refine ev_rem rfl rfl rfl rfl (by omega) (by omega) ?_
    | refine ev_quo rfl rfl rfl rfl (by omega) (by omega) (by simp only [hiK]; omega) ?_
    | refine ev_index rfl rfl tabOk rfl rfl rfl (by omega) (by omega) ?_
    | refine ev_indexA rfl rfl tabOk rfl rfl rfl (by omega) (by omega) rfl ?_
    | refine ev_convB rfl rfl tabOk rfl rfl rfl rfl ?_
    | refine ev_conv rfl rfl tabOk rfl rfl rfl (by simp only [lowK, hiK]; omega) ?_)
  refine ev_call rfl rfl rfl (wCheck A c B d v _ (hV.fr0 hfb) hS) (fun r w1 hr => ?_)
  obtain ⟨rfl, hf1⟩ := hr
  have hB1 := hB.fr0 hf1
  have hf01 := hfb.tr hf1
  clear hB hfb hf1
  repeat (first
    | refine stepF_ok tabOk [] (m := 400) rfl ?_
    | refine stepF_ok tabOk [] (m := 16) rfl ?_
    | refine stepF_ok tabOk [] (m := 3) rfl ?_
    | refine stepF_ok tabOk [] (m := 0) rfl ?_
    | refine ev_load rfl rfl tabOk rfl rfl (by assumption) ?_
    | refine ev_loadB rfl rfl tabOk rfl rfl (by assumption) (by rfl) ?_
    | refine ev_loadAggB rfl rfl tabOk rfl rfl (by assumption) (by rfl) ?_
    | refine ev_arith rfl rfl rfl rfl rfl (by simp only [lowK, hiK]; omega) ?_
    | refine ev_rem rfl rfl rfl rfl (by omega) (by omega) ?_
    | refine ev_quo rfl rfl rfl rfl (by omega) (by omega) (by simp only [hiK]; omega) ?_
    | refine ev_index rfl rfl tabOk rfl rfl rfl (by omega) (by omega) ?_
    | refine ev_indexA rfl rfl tabOk rfl rfl rfl (by omega) (by omega) rfl ?_
    | refine ev_convB rfl rfl tabOk rfl rfl rfl rfl ?_
    | refine ev_conv rfl rfl tabOk rfl rfl rfl (by simp only [lowK, hiK]; omega) ?_)
  refine ev_condD rfl (fun h0 => ?_) (fun h0 => ?_)
  · have h0 : v.chk.2 ≠ 0 := by omega
    repeat (first
      | refine stepF_ok tabOk [] (m := 400) rfl ?_
      | refine stepF_ok tabOk [] (m := 16) rfl ?_
      | refine stepF_ok tabOk [] (m := 3) rfl ?_
      | refine stepF_ok tabOk [] (m := 0) rfl ?_
      | refine ev_load rfl rfl tabOk rfl rfl (by assumption) ?_
      | refine ev_loadB rfl rfl tabOk rfl rfl (by assumption) (by rfl) ?_
      | refine ev_loadAggB rfl rfl tabOk rfl rfl (by assumption) (by rfl) ?_
      | refine ev_arith rfl rfl rfl rfl rfl (by simp only [lowK, hiK]; omega) ?_
      | refine ev_rem rfl rfl rfl rfl (by omega) (by omega) ?_
      | refine ev_quo rfl rfl rfl rfl (by omega) (by omega) (by simp only [hiK]; omega) ?_
      | refine ev_index rfl rfl tabOk rfl rfl rfl (by omega) (by omega) ?_
      | refine ev_indexA rfl rfl tabOk rfl rfl rfl (by omega) (by omega) rfl ?_
      | refine ev_convB rfl rfl tabOk rfl rfl rfl rfl ?_
      | refine ev_conv rfl rfl tabOk rfl rfl rfl (by simp only [lowK, hiK]; omega) ?_)
    exact retG tabOk (.inr rfl) rfl [sv [], i64 v.chk.1, i64 v.chk.2] ⟨rfl, rfl, rfl, trivial⟩ ⟨by unfold decR; rw [dec_bad h0]; rfl, hf01⟩
  have h0 : v.chk.2 = 0 := by omega
  have hok := chk_ok h0
  have hz1 := hf01.size
  have hpl := hB1.lt
  repeat (first
    | refine stepF_ok tabOk [] (m := 400) rfl ?_
    | refine stepF_ok tabOk [] (m := 16) rfl ?_
    | refine stepF_ok tabOk [] (m := 3) rfl ?_
    | refine stepF_ok tabOk [] (m := 0) rfl ?_
    | refine ev_load rfl rfl tabOk rfl rfl (by assumption) ?_
    | refine ev_loadB rfl rfl tabOk rfl rfl (by assumption) (by rfl) ?_
    | refine ev_loadAggB rfl rfl tabOk rfl rfl (by assumption) (by rfl) ?_
    | refine ev_arith rfl rfl rfl rfl rfl (by simp only [lowK, hiK]; omega) ?_
    | refine ev_rem rfl rfl rfl rfl (by omega) (by omega) ?_
    | refine ev_quo rfl rfl rfl rfl (by omega) (by omega) (by simp only [hiK]; omega) ?_
    | refine ev_index rfl rfl tabOk rfl rfl rfl (by omega) (by omega) ?_
    | refine ev_indexA rfl rfl tabOk rfl rfl rfl (by omega) (by omega) rfl ?_
    | refine ev_convB rfl rfl tabOk rfl rfl rfl rfl ?_
    | refine ev_conv rfl rfl tabOk rfl rfl rfl (by simp only [lowK, hiK]; omega) ?_)
  refine ev_alloc rfl rfl inf71 (fun b w2 hb hb2 hf2 => ?_)
  have hB2 := hB1.fr0 hf2
  have hf02 := hf01.tr hf2
  have hD2 : Bd w2 b (.slice none 0 0) [] := ⟨.pointer none, .inl rfl, hb2, Own.nil _ _ _, by simp [Value.ownBlock]⟩
  have hbp : p < b := by omega
  clear hB1 hf01 hf2 hb2
  repeat (first
    | refine stepF_ok tabOk [] (m := 400) rfl ?_
    | refine stepF_ok tabOk [] (m := 16) rfl ?_
    | refine stepF_ok tabOk [] (m := 3) rfl ?_
    | refine stepF_ok tabOk [] (m := 0) rfl ?_
    | refine ev_load rfl rfl tabOk rfl rfl (by assumption) ?_
    | refine ev_loadB rfl rfl tabOk rfl rfl (by assumption) (by rfl) ?_
    | refine ev_loadAggB rfl rfl tabOk rfl rfl (by assumption) (by rfl) ?_
    | refine ev_arith rfl rfl rfl rfl rfl (by simp only [lowK, hiK]; omega) ?_
    | refine ev_rem rfl rfl rfl rfl (by omega) (by omega) ?_
    | refine ev_quo rfl rfl rfl rfl (by omega) (by omega) (by simp only [hiK]; omega) ?_
    | refine ev_index rfl rfl tabOk rfl rfl rfl (by omega) (by omega) ?_
    | refine ev_indexA rfl rfl tabOk rfl rfl rfl (by omega) (by omega) rfl ?_
    | refine ev_convB rfl rfl tabOk rfl rfl rfl rfl ?_
    | refine ev_conv rfl rfl tabOk rfl rfl rfl (by simp only [lowK, hiK]; omega) ?_)
  refine ev_loop (α := Nat × Value) (fun y => [(2, .pointer (some ⟨p, 0, none⟩)), (9, .pointer (some ⟨b, 0, none⟩)), (21, .slice C l.length e), (22, i64 l.length), (23, i64 y.1)])
    (fun y w' => y.1 ≤ l.length ∧ (∀ j, j < y.1 → v.inR (l.getD j 0)) ∧ Fr no w w' ∧ Blk w' p [.slice A v.texts.length c, .slice B v.merges.length d] 25 ∧ Bd w' b y.2 (v.say (l.take y.1)) ∧ (∀ g, y.2.ownBlock = some g → p < g)) (fun y => l.length - y.1) (0, .slice none 0 0) ⟨rfl, rfl, rfl, rfl, rfl, trivial⟩
    ⟨Nat.zero_le _, fun j h => by omega, hf02, hB2, hD2, fun g hg => by cases hg⟩ ?_
  clear hB2 hf02 hD2
  rintro ⟨k, a⟩ w3 ⟨hk, hall, hf, hB, hD, hg⟩
  simp only at hk hall hD hg
  have hsl := say_len hok (l.take k)
  rw [List.length_take, Nat.min_eq_left hk] at hsl
  repeat (first
    | refine stepF_ok tabOk [] (m := 400) rfl ?_
    | refine stepF_ok tabOk [] (m := 16) rfl ?_
    | refine stepF_ok tabOk [] (m := 3) rfl ?_
    | refine stepF_ok tabOk [] (m := 0) rfl ?_
    | refine ev_load rfl rfl tabOk rfl rfl (by assumption) ?_
    | refine ev_loadB rfl rfl tabOk rfl rfl (by assumption) (by rfl) ?_
    | refine ev_loadAggB rfl rfl tabOk rfl rfl (by assumption) (by rfl) ?_
    | refine ev_arith rfl rfl rfl rfl rfl (by simp only [lowK, hiK]; omega) ?_
    | refine ev_rem rfl rfl rfl rfl (by omega) (by omega) ?_
    | refine ev_quo rfl rfl rfl rfl (by omega) (by omega) (by simp only [hiK]; omega) ?_
    | refine ev_index rfl rfl tabOk rfl rfl rfl (by omega) (by omega) ?_
    | refine ev_indexA rfl rfl tabOk rfl rfl rfl (by omega) (by omega) rfl ?_
    | refine ev_convB rfl rfl tabOk rfl rfl rfl rfl ?_
    | refine ev_conv rfl rfl tabOk rfl rfl rfl (by simp only [lowK, hiK]; omega) ?_)
  refine ev_condD rfl (fun hlt => ?_) (fun hlt => ?_)
  · simp only at hlt
    have hk1 : k < l.length := by omega
    obtain ⟨g, o, e1, hcx⟩ := ints_at (hC.fr0 hf) hk1
    subst e1
    obtain ⟨t, ht⟩ : ∃ t, t = l.getD k 0 := ⟨_, rfl⟩
    rw [← ht] at hcx
    have hbad : ∀ {w' : World}, ¬ v.inR t → Fr no w w' → (Value.tuple #[sv [], i64 k, i64 133] = decR v l ∧ Fr no w w') := fun h hf => ⟨by unfold decR; rw [dec_tok h0 hk1 hall (by rw [← ht]; exact h)]; rfl, hf⟩
    repeat (first
      | refine stepF_ok tabOk [] (m := 400) rfl ?_
      | refine stepF_ok tabOk [] (m := 16) rfl ?_
      | refine stepF_ok tabOk [] (m := 3) rfl ?_
      | refine stepF_ok tabOk [] (m := 0) rfl ?_
      | refine ev_load rfl rfl tabOk rfl rfl (by assumption) ?_
      | refine ev_loadB rfl rfl tabOk rfl rfl (by assumption) (by rfl) ?_
      | refine ev_loadAggB rfl rfl tabOk rfl rfl (by assumption) (by rfl) ?_
      | refine ev_arith rfl rfl rfl rfl rfl (by simp only [lowK, hiK]; omega) ?_
      | refine ev_rem rfl rfl rfl rfl (by omega) (by omega) ?_
      | refine ev_quo rfl rfl rfl rfl (by omega) (by omega) (by simp only [hiK]; omega) ?_
      | refine ev_index rfl rfl tabOk rfl rfl rfl (by omega) (by omega) ?_
      | refine ev_indexA rfl rfl tabOk rfl rfl rfl (by omega) (by omega) rfl ?_
      | refine ev_convB rfl rfl tabOk rfl rfl rfl rfl ?_
      | refine ev_conv rfl rfl tabOk rfl rfl rfl (by simp only [lowK, hiK]; omega) ?_)
    refine ev_indexAddr (len := l.length) (i := k) rfl rfl tabOk rfl rfl rfl (by omega) (by omega) ?_
    repeat (first
      | refine stepF_ok tabOk [] (m := 400) rfl ?_
      | refine stepF_ok tabOk [] (m := 16) rfl ?_
      | refine stepF_ok tabOk [] (m := 3) rfl ?_
      | refine stepF_ok tabOk [] (m := 0) rfl ?_
      | refine ev_load rfl rfl tabOk rfl rfl (by assumption) ?_
      | refine ev_loadB rfl rfl tabOk rfl rfl (by assumption) (by rfl) ?_
      | refine ev_loadAggB rfl rfl tabOk rfl rfl (by assumption) (by rfl) ?_
      | refine ev_arith rfl rfl rfl rfl rfl (by simp only [lowK, hiK]; omega) ?_
      | refine ev_rem rfl rfl rfl rfl (by omega) (by omega) ?_
      | refine ev_quo rfl rfl rfl rfl (by omega) (by omega) (by simp only [hiK]; omega) ?_
      | refine ev_index rfl rfl tabOk rfl rfl rfl (by omega) (by omega) ?_
      | refine ev_indexA rfl rfl tabOk rfl rfl rfl (by omega) (by omega) rfl ?_
      | refine ev_convB rfl rfl tabOk rfl rfl rfl rfl ?_
      | refine ev_conv rfl rfl tabOk rfl rfl rfl (by simp only [lowK, hiK]; omega) ?_)
    refine ev_guardD rfl rfl (fun h1 => ?_) (fun h1 => ?_)
    · repeat (first
        | refine stepF_ok tabOk [] (m := 400) rfl ?_
        | refine stepF_ok tabOk [] (m := 16) rfl ?_
        | refine stepF_ok tabOk [] (m := 3) rfl ?_
        | refine stepF_ok tabOk [] (m := 0) rfl ?_
        | refine ev_load rfl rfl tabOk rfl rfl (by assumption) ?_
        | refine ev_loadB rfl rfl tabOk rfl rfl (by assumption) (by rfl) ?_
        | refine ev_loadAggB rfl rfl tabOk rfl rfl (by assumption) (by rfl) ?_
        | refine ev_arith rfl rfl rfl rfl rfl (by simp only [lowK, hiK]; omega) ?_
        | refine ev_rem rfl rfl rfl rfl (by omega) (by omega) ?_
        | refine ev_quo rfl rfl rfl rfl (by omega) (by omega) (by simp only [hiK]; omega) ?_
        | refine ev_index rfl rfl tabOk rfl rfl rfl (by omega) (by omega) ?_
        | refine ev_indexA rfl rfl tabOk rfl rfl rfl (by omega) (by omega) rfl ?_
        | refine ev_convB rfl rfl tabOk rfl rfl rfl rfl ?_
        | refine ev_conv rfl rfl tabOk rfl rfl rfl (by simp only [lowK, hiK]; omega) ?_)
      exact retG tabOk (.inr rfl) rfl [sv [], i64 k, i64 133] ⟨rfl, rfl, rfl, trivial⟩ (hbad (fun h => by have := h.1; omega) hf)
    · repeat (first
        | refine stepF_ok tabOk [] (m := 400) rfl ?_
        | refine stepF_ok tabOk [] (m := 16) rfl ?_
        | refine stepF_ok tabOk [] (m := 3) rfl ?_
        | refine stepF_ok tabOk [] (m := 0) rfl ?_
        | refine ev_load rfl rfl tabOk rfl rfl (by assumption) ?_
        | refine ev_loadB rfl rfl tabOk rfl rfl (by assumption) (by rfl) ?_
        | refine ev_loadAggB rfl rfl tabOk rfl rfl (by assumption) (by rfl) ?_
        | refine ev_arith rfl rfl rfl rfl rfl (by simp only [lowK, hiK]; omega) ?_
        | refine ev_rem rfl rfl rfl rfl (by omega) (by omega) ?_
        | refine ev_quo rfl rfl rfl rfl (by omega) (by omega) (by simp only [hiK]; omega) ?_
        | refine ev_index rfl rfl tabOk rfl rfl rfl (by omega) (by omega) ?_
        | refine ev_indexA rfl rfl tabOk rfl rfl rfl (by omega) (by omega) rfl ?_
        | refine ev_convB rfl rfl tabOk rfl rfl rfl rfl ?_
        | refine ev_conv rfl rfl tabOk rfl rfl rfl (by simp only [lowK, hiK]; omega) ?_)
      refine ev_condD rfl (fun h2 => ?_) (fun h2 => ?_)
      · repeat (first
          | refine stepF_ok tabOk [] (m := 400) rfl ?_
          | refine stepF_ok tabOk [] (m := 16) rfl ?_
          | refine stepF_ok tabOk [] (m := 3) rfl ?_
          | refine stepF_ok tabOk [] (m := 0) rfl ?_
          | refine ev_load rfl rfl tabOk rfl rfl (by assumption) ?_
          | refine ev_loadB rfl rfl tabOk rfl rfl (by assumption) (by rfl) ?_
          | refine ev_loadAggB rfl rfl tabOk rfl rfl (by assumption) (by rfl) ?_
          | refine ev_arith rfl rfl rfl rfl rfl (by simp only [lowK, hiK]; omega) ?_
          | refine ev_rem rfl rfl rfl rfl (by omega) (by omega) ?_
          | refine ev_quo rfl rfl rfl rfl (by omega) (by omega) (by simp only [hiK]; omega) ?_
          | refine ev_index rfl rfl tabOk rfl rfl rfl (by omega) (by omega) ?_
          | refine ev_indexA rfl rfl tabOk rfl rfl rfl (by omega) (by omega) rfl ?_
          | refine ev_convB rfl rfl tabOk rfl rfl rfl rfl ?_
          | refine ev_conv rfl rfl tabOk rfl rfl rfl (by simp only [lowK, hiK]; omega) ?_)
        exact retG tabOk (.inr rfl) rfl [sv [], i64 k, i64 133] ⟨rfl, rfl, rfl, trivial⟩ (hbad (fun h => by have := h.2; omega) hf)
      · obtain ⟨n, hnn⟩ : ∃ n : Nat, t = n := ⟨t.toNat, by omega⟩
        obtain ⟨g2, o2, e2, hcy⟩ := strs_at (hV.fr0 hf).1 (j := n) (by omega)
        subst e2
        have hcy : w3.cell? ⟨g2, o2 + t.toNat * 1, none⟩ = some (sv (v.t t.toNat)) := by rw [hnn]; exact hcy
        have hst := say_take (v := v) hk1
        rw [← ht] at hst
        have htl := (hok.texts n (by omega)).2.2
        have htn : t.toNat = n := by omega
        repeat (first
          | refine stepF_ok tabOk [] (m := 400) rfl ?_
          | refine stepF_ok tabOk [] (m := 16) rfl ?_
          | refine stepF_ok tabOk [] (m := 3) rfl ?_
          | refine stepF_ok tabOk [] (m := 0) rfl ?_
          | refine ev_load rfl rfl tabOk rfl rfl (by assumption) ?_
          | refine ev_loadB rfl rfl tabOk rfl rfl (by assumption) (by rfl) ?_
          | refine ev_loadAggB rfl rfl tabOk rfl rfl (by assumption) (by rfl) ?_
          | refine ev_arith rfl rfl rfl rfl rfl (by simp only [lowK, hiK]; omega) ?_
          | refine ev_rem rfl rfl rfl rfl (by omega) (by omega) ?_
          | refine ev_quo rfl rfl rfl rfl (by omega) (by omega) (by simp only [hiK]; omega) ?_
          | refine ev_index rfl rfl tabOk rfl rfl rfl (by omega) (by omega) ?_
          | refine ev_indexA rfl rfl tabOk rfl rfl rfl (by omega) (by omega) rfl ?_
          | refine ev_convB rfl rfl tabOk rfl rfl rfl rfl ?_
          | refine ev_conv rfl rfl tabOk rfl rfl rfl (by simp only [lowK, hiK]; omega) ?_)
        refine ev_indexAddr (len := v.texts.length) (i := t) rfl rfl tabOk rfl rfl rfl (by omega) (by omega) ?_
        repeat (first
          | refine stepF_ok tabOk [] (m := 400) rfl ?_
          | refine stepF_ok tabOk [] (m := 16) rfl ?_
          | refine stepF_ok tabOk [] (m := 3) rfl ?_
          | refine stepF_ok tabOk [] (m := 0) rfl ?_
          | refine ev_load rfl rfl tabOk rfl rfl (by assumption) ?_
          | refine ev_loadB rfl rfl tabOk rfl rfl (by assumption) (by rfl) ?_
          | refine ev_loadAggB rfl rfl tabOk rfl rfl (by assumption) (by rfl) ?_
          | refine ev_arith rfl rfl rfl rfl rfl (by simp only [lowK, hiK]; omega) ?_
          | refine ev_rem rfl rfl rfl rfl (by omega) (by omega) ?_
          | refine ev_quo rfl rfl rfl rfl (by omega) (by omega) (by simp only [hiK]; omega) ?_
          | refine ev_index rfl rfl tabOk rfl rfl rfl (by omega) (by omega) ?_
          | refine ev_indexA rfl rfl tabOk rfl rfl rfl (by omega) (by omega) rfl ?_
          | refine ev_convB rfl rfl tabOk rfl rfl rfl rfl ?_
          | refine ev_conv rfl rfl tabOk rfl rfl rfl (by simp only [lowK, hiK]; omega) ?_)
        refine ev_call rfl rfl rfl (bdWrite b a (v.say (l.take k)) (v.t t.toNat) _ hD (by rw [htn]; omega)) (fun r w4 hr => ?_)
        obtain ⟨a2, hD4, hf4, hn4⟩ := hr
        rw [← hst] at hD4
        repeat (first
          | refine stepF_ok tabOk [] (m := 400) rfl ?_
          | refine stepF_ok tabOk [] (m := 16) rfl ?_
          | refine stepF_ok tabOk [] (m := 3) rfl ?_
          | refine stepF_ok tabOk [] (m := 0) rfl ?_
          | refine ev_load rfl rfl tabOk rfl rfl (by assumption) ?_
          | refine ev_loadB rfl rfl tabOk rfl rfl (by assumption) (by rfl) ?_
          | refine ev_loadAggB rfl rfl tabOk rfl rfl (by assumption) (by rfl) ?_
          | refine ev_arith rfl rfl rfl rfl rfl (by simp only [lowK, hiK]; omega) ?_
          | refine ev_rem rfl rfl rfl rfl (by omega) (by omega) ?_
          | refine ev_quo rfl rfl rfl rfl (by omega) (by omega) (by simp only [hiK]; omega) ?_
          | refine ev_index rfl rfl tabOk rfl rfl rfl (by omega) (by omega) ?_
          | refine ev_indexA rfl rfl tabOk rfl rfl rfl (by omega) (by omega) rfl ?_
          | refine ev_convB rfl rfl tabOk rfl rfl rfl rfl ?_
          | refine ev_conv rfl rfl tabOk rfl rfl rfl (by simp only [lowK, hiK]; omega) ?_)
        refine ev_next (k + 1, a2) (by simp only; omega) ⟨by simp only; omega, fun j hj => ?_, hf.trans hf4 (fun c hc e => ?_), hB.fr hf4 (fun e => ?_), hD4, fun g' hg' => ?_⟩ ⟨rfl, rfl, rfl, rfl, rfl, trivial⟩
        · by_cases e : j = k
          · subst e; rw [← ht]; exact ⟨by omega, by omega⟩
          · exact hall j (by simp only at hj; omega)
        · rcases e with e | e
          · omega
          · have := hg c e; omega
        · rcases e with e | e
          · omega
          · have := hg p e; omega
        · rcases hn4 g' hg' with h | h
          · exact hg g' h
          · have := hB.lt; omega
  · have hkn : k = l.length := by omega
    subst hkn
    rw [List.take_length] at hD
    repeat (first
      | refine stepF_ok tabOk [] (m := 400) rfl ?_
      | refine stepF_ok tabOk [] (m := 16) rfl ?_
      | refine stepF_ok tabOk [] (m := 3) rfl ?_
      | refine stepF_ok tabOk [] (m := 0) rfl ?_
      | refine ev_load rfl rfl tabOk rfl rfl (by assumption) ?_
      | refine ev_loadB rfl rfl tabOk rfl rfl (by assumption) (by rfl) ?_
      | refine ev_loadAggB rfl rfl tabOk rfl rfl (by assumption) (by rfl) ?_
      | refine ev_arith rfl rfl rfl rfl rfl (by simp only [lowK, hiK]; omega) ?_
      | refine ev_rem rfl rfl rfl rfl (by omega) (by omega) ?_
      | refine ev_quo rfl rfl rfl rfl (by omega) (by omega) (by simp only [hiK]; omega) ?_
      | refine ev_index rfl rfl tabOk rfl rfl rfl (by omega) (by omega) ?_
      | refine ev_indexA rfl rfl tabOk rfl rfl rfl (by omega) (by omega) rfl ?_
      | refine ev_convB rfl rfl tabOk rfl rfl rfl rfl ?_
      | refine ev_conv rfl rfl tabOk rfl rfl rfl (by simp only [lowK, hiK]; omega) ?_)
    refine ev_call rfl rfl rfl (bdString b a _ _ hD) (fun r w4 hr => ?_)
    obtain ⟨rfl, hf4⟩ := hr
    repeat (first
      | refine stepF_ok tabOk [] (m := 400) rfl ?_
      | refine stepF_ok tabOk [] (m := 16) rfl ?_
      | refine stepF_ok tabOk [] (m := 3) rfl ?_
      | refine stepF_ok tabOk [] (m := 0) rfl ?_
      | refine ev_load rfl rfl tabOk rfl rfl (by assumption) ?_
      | refine ev_loadB rfl rfl tabOk rfl rfl (by assumption) (by rfl) ?_
      | refine ev_loadAggB rfl rfl tabOk rfl rfl (by assumption) (by rfl) ?_
      | refine ev_arith rfl rfl rfl rfl rfl (by simp only [lowK, hiK]; omega) ?_
      | refine ev_rem rfl rfl rfl rfl (by omega) (by omega) ?_
      | refine ev_quo rfl rfl rfl rfl (by omega) (by omega) (by simp only [hiK]; omega) ?_
      | refine ev_index rfl rfl tabOk rfl rfl rfl (by omega) (by omega) ?_
      | refine ev_indexA rfl rfl tabOk rfl rfl rfl (by omega) (by omega) rfl ?_
      | refine ev_convB rfl rfl tabOk rfl rfl rfl rfl ?_
      | refine ev_conv rfl rfl tabOk rfl rfl rfl (by simp only [lowK, hiK]; omega) ?_)
    refine retG tabOk (.inr rfl) rfl [sv (v.say l), i64 0, i64 0] ⟨rfl, rfl, rfl, trivial⟩ ⟨by unfold decR; rw [dec_all h0 hall]; rfl, hf.trans hf4 (fun c hc e => ?_)⟩
    rcases e with e | e
    · omega
    · have := hg c e; omega

set_option maxHeartbeats 1000000 in
theorem refDecode (A : Option Addr) (c : Nat) (B : Option Addr) (d : Nat) (v : VV) (C : Option Addr) (e : Nat) (l : List Int) (w : World) (hV : Vo w A B v) (hS : VS v) (hC : Cs w C (l.map i64)) (hl : l.length ≤ 20000000) :
    CallsF Try.prog 21 [vv A c B d v, .slice C l.length e] w fun r w' => r = decR v l ∧ Fr no w w' := by
  have hn := hS.merges
  have hnt := hS.texts
  refine callsF Try.func21 rfl rfl (by decide) rfl ?_
  refine stepF_ok tabOk [] (m := 3) rfl ?_
  refine ev_box rfl rfl rfl (fun p wb hp hB hfb => ?_)
  have hB : Blk wb p [.slice A v.texts.length c, .slice B v.merges.length d] 28 := hB
  repeat (first
    | refine stepF_ok tabOk [] (m := 400) rfl ?_
    | refine stepF_ok tabOk [] (m := 16) rfl ?_
    | refine stepF_ok tabOk [] (m := 3) rfl ?_
    | refine stepF_ok tabOk [] (m := 0) rfl ?_
    | refine ev_load rfl rfl tabOk rfl rfl (by assumption) ?_
    | refine ev_loadB rfl rfl tabOk rfl rfl (by assumption) (by rfl) ?_
    | refine ev_loadAggB rfl rfl tabOk rfl rfl (by assumption) (by rfl) ?_
    | refine ev_arith rfl rfl rfl rfl rfl (by simp only [lowK, hiK]; omega) ?_
    | refine ev_rem rfl rfl rfl rfl (by omega) (by omega) ?_
    | refine ev_quo rfl rfl rfl rfl (by omega) (by omega) (by simp only [hiK]; omega) ?_
    | refine ev_index rfl rfl tabOk rfl rfl rfl (by omega) (by omega) ?_
    | refine ev_indexA rfl rfl tabOk rfl rfl rfl (by omega) (by omega) rfl ?_
    | refine ev_convB rfl rfl tabOk rfl rfl rfl rfl ?_
    | refine ev_conv rfl rfl tabOk rfl rfl rfl (by simp only [lowK, hiK]; omega) ?_)
  refine ev_call rfl rfl rfl (refCheck A c B d v _ (hV.fr0 hfb) hS) (fun r w1 hr => ?_)
  obtain ⟨rfl, hf1⟩ := hr
  have hB1 := hB.fr0 hf1
  have hf01 := hfb.tr hf1
  clear hB hfb hf1
  repeat (first
    | refine stepF_ok tabOk [] (m := 400) rfl ?_
    | refine stepF_ok tabOk [] (m := 16) rfl ?_
    | refine stepF_ok tabOk [] (m := 3) rfl ?_
    | refine stepF_ok tabOk [] (m := 0) rfl ?_
    | refine ev_load rfl rfl tabOk rfl rfl (by assumption) ?_
    | refine ev_loadB rfl rfl tabOk rfl rfl (by assumption) (by rfl) ?_
    | refine ev_loadAggB rfl rfl tabOk rfl rfl (by assumption) (by rfl) ?_
    | refine ev_arith rfl rfl rfl rfl rfl (by simp only [lowK, hiK]; omega) ?_
    | refine ev_rem rfl rfl rfl rfl (by omega) (by omega) ?_
    | refine ev_quo rfl rfl rfl rfl (by omega) (by omega) (by simp only [hiK]; omega) ?_
    | refine ev_index rfl rfl tabOk rfl rfl rfl (by omega) (by omega) ?_
    | refine ev_indexA rfl rfl tabOk rfl rfl rfl (by omega) (by omega) rfl ?_
    | refine ev_convB rfl rfl tabOk rfl rfl rfl rfl ?_
    | refine ev_conv rfl rfl tabOk rfl rfl rfl (by simp only [lowK, hiK]; omega) ?_)
  refine ev_condD rfl (fun h0 => ?_) (fun h0 => ?_)
  · have h0 : v.chk.2 ≠ 0 := by omega
    repeat (first
      | refine stepF_ok tabOk [] (m := 400) rfl ?_
      | refine stepF_ok tabOk [] (m := 16) rfl ?_
      | refine stepF_ok tabOk [] (m := 3) rfl ?_
      | refine stepF_ok tabOk [] (m := 0) rfl ?_
      | refine ev_load rfl rfl tabOk rfl rfl (by assumption) ?_
      | refine ev_loadB rfl rfl tabOk rfl rfl (by assumption) (by rfl) ?_
      | refine ev_loadAggB rfl rfl tabOk rfl rfl (by assumption) (by rfl) ?_
      | refine ev_arith rfl rfl rfl rfl rfl (by simp only [lowK, hiK]; omega) ?_
      | refine ev_rem rfl rfl rfl rfl (by omega) (by omega) ?_
      | refine ev_quo rfl rfl rfl rfl (by omega) (by omega) (by simp only [hiK]; omega) ?_
      | refine ev_index rfl rfl tabOk rfl rfl rfl (by omega) (by omega) ?_
      | refine ev_indexA rfl rfl tabOk rfl rfl rfl (by omega) (by omega) rfl ?_
      | refine ev_convB rfl rfl tabOk rfl rfl rfl rfl ?_
      | refine ev_conv rfl rfl tabOk rfl rfl rfl (by simp only [lowK, hiK]; omega) ?_)
    exact retG tabOk (.inr rfl) rfl [sv [], i64 v.chk.1, i64 v.chk.2] ⟨rfl, rfl, rfl, trivial⟩ ⟨by unfold decR; rw [dec_bad h0]; rfl, hf01⟩
  have h0 : v.chk.2 = 0 := by omega
  have hok := chk_ok h0
  repeat (first
    | refine stepF_ok tabOk [] (m := 400) rfl ?_
    | refine stepF_ok tabOk [] (m := 16) rfl ?_
    | refine stepF_ok tabOk [] (m := 3) rfl ?_
    | refine stepF_ok tabOk [] (m := 0) rfl ?_
    | refine ev_load rfl rfl tabOk rfl rfl (by assumption) ?_
    | refine ev_loadB rfl rfl tabOk rfl rfl (by assumption) (by rfl) ?_
    | refine ev_loadAggB rfl rfl tabOk rfl rfl (by assumption) (by rfl) ?_
    | refine ev_arith rfl rfl rfl rfl rfl (by simp only [lowK, hiK]; omega) ?_
    | refine ev_rem rfl rfl rfl rfl (by omega) (by omega) ?_
    | refine ev_quo rfl rfl rfl rfl (by omega) (by omega) (by simp only [hiK]; omega) ?_
    | refine ev_index rfl rfl tabOk rfl rfl rfl (by omega) (by omega) ?_
    | refine ev_indexA rfl rfl tabOk rfl rfl rfl (by omega) (by omega) rfl ?_
    | refine ev_convB rfl rfl tabOk rfl rfl rfl rfl ?_
    | refine ev_conv rfl rfl tabOk rfl rfl rfl (by simp only [lowK, hiK]; omega) ?_)
  refine ev_loop (α := Nat) (fun k => [(1, .slice C l.length e), (2, .pointer (some ⟨p, 0, none⟩)), (9, sv (v.say (l.take k))), (10, i64 k)])
    (fun k w' => k ≤ l.length ∧ (∀ j, j < k → v.inR (l.getD j 0)) ∧ Fr no w w' ∧ Blk w' p [.slice A v.texts.length c, .slice B v.merges.length d] 28) (fun k => l.length - k) 0 ⟨rfl, rfl, rfl, rfl, trivial⟩
    ⟨Nat.zero_le _, fun j h => by omega, hf01, hB1⟩ ?_
  clear hB1 hf01
  rintro k w3 ⟨hk, hall, hf, hB⟩
  have hsl := say_len hok (l.take k)
  rw [List.length_take, Nat.min_eq_left hk] at hsl
  repeat (first
    | refine stepF_ok tabOk [] (m := 400) rfl ?_
    | refine stepF_ok tabOk [] (m := 16) rfl ?_
    | refine stepF_ok tabOk [] (m := 3) rfl ?_
    | refine stepF_ok tabOk [] (m := 0) rfl ?_
    | refine ev_load rfl rfl tabOk rfl rfl (by assumption) ?_
    | refine ev_loadB rfl rfl tabOk rfl rfl (by assumption) (by rfl) ?_
    | refine ev_loadAggB rfl rfl tabOk rfl rfl (by assumption) (by rfl) ?_
    | refine ev_arith rfl rfl rfl rfl rfl (by simp only [lowK, hiK]; omega) ?_
    | refine ev_rem rfl rfl rfl rfl (by omega) (by omega) ?_
    | refine ev_quo rfl rfl rfl rfl (by omega) (by omega) (by simp only [hiK]; omega) ?_
    | refine ev_index rfl rfl tabOk rfl rfl rfl (by omega) (by omega) ?_
    | refine ev_indexA rfl rfl tabOk rfl rfl rfl (by omega) (by omega) rfl ?_
    | refine ev_convB rfl rfl tabOk rfl rfl rfl rfl ?_
    | refine ev_conv rfl rfl tabOk rfl rfl rfl (by simp only [lowK, hiK]; omega) ?_)
  refine ev_condD rfl (fun hlt => ?_) (fun hlt => ?_)
  · have hk1 : k < l.length := by omega
    obtain ⟨g, o, e1, hcx⟩ := ints_at (hC.fr0 hf) hk1
    subst e1
    obtain ⟨t, ht⟩ : ∃ t, t = l.getD k 0 := ⟨_, rfl⟩
    rw [← ht] at hcx
    have hbad : ∀ {w' : World}, ¬ v.inR t → Fr no w w' → (Value.tuple #[sv [], i64 k, i64 133] = decR v l ∧ Fr no w w') := fun h hf => ⟨by unfold decR; rw [dec_tok h0 hk1 hall (by rw [← ht]; exact h)]; rfl, hf⟩
    repeat (first
      | refine stepF_ok tabOk [] (m := 400) rfl ?_
      | refine stepF_ok tabOk [] (m := 16) rfl ?_
      | refine stepF_ok tabOk [] (m := 3) rfl ?_
      | refine stepF_ok tabOk [] (m := 0) rfl ?_
      | refine ev_load rfl rfl tabOk rfl rfl (by assumption) ?_
      | refine ev_loadB rfl rfl tabOk rfl rfl (by assumption) (by rfl) ?_
      | refine ev_loadAggB rfl rfl tabOk rfl rfl (by assumption) (by rfl) ?_
      | refine ev_arith rfl rfl rfl rfl rfl (by simp only [lowK, hiK]; omega) ?_
      | refine ev_rem rfl rfl rfl rfl (by omega) (by omega) ?_
      | refine ev_quo rfl rfl rfl rfl (by omega) (by omega) (by simp only [hiK]; omega) ?_
      | refine ev_index rfl rfl tabOk rfl rfl rfl (by omega) (by omega) ?_
      | refine ev_indexA rfl rfl tabOk rfl rfl rfl (by omega) (by omega) rfl ?_
      | refine ev_convB rfl rfl tabOk rfl rfl rfl rfl ?_
      | refine ev_conv rfl rfl tabOk rfl rfl rfl (by simp only [lowK, hiK]; omega) ?_)
    refine ev_draw mixed (by kernel_rfl) ?_
    repeat (first
      | refine stepQF_ok tabOk (m := 400) rfl ?_
      | refine stepQF_ok tabOk (m := 16) rfl ?_
      | refine stepQF_ok tabOk (m := 3) rfl ?_
      | refine stepQF_ok tabOk (m := 0) rfl ?_
      | refine q_load rfl rfl tabOk rfl rfl (fun _ hf => cell_fr (by assumption) hf id) ?_
      | refine q_loadB rfl rfl tabOk rfl rfl (by assumption) (by rfl) ?_
      | refine q_loadAggB rfl rfl tabOk rfl rfl (by assumption) (by rfl) ?_
      | refine q_arith rfl rfl rfl rfl rfl (by simp only [lowK, hiK]; omega) ?_
      | refine q_rem rfl rfl rfl rfl (by omega) (by omega) ?_
      | refine q_quo rfl rfl rfl rfl (by omega) (by omega) (by simp only [hiK]; omega) ?_
      | refine q_index rfl rfl tabOk rfl rfl rfl (by omega) (by omega) ?_
      | refine q_convB rfl rfl tabOk rfl rfl rfl rfl ?_
      | refine q_conv rfl rfl tabOk rfl rfl rfl (by simp only [lowK, hiK]; omega) ?_)
    refine q_indexAddr (len := l.length) (i := k) rfl rfl tabOk rfl rfl rfl (by omega) (by omega) ?_
    repeat (first
      | refine stepQF_ok tabOk (m := 400) rfl ?_
      | refine stepQF_ok tabOk (m := 16) rfl ?_
      | refine stepQF_ok tabOk (m := 3) rfl ?_
      | refine stepQF_ok tabOk (m := 0) rfl ?_
      | refine q_load rfl rfl tabOk rfl rfl (fun _ hf => cell_fr (by assumption) hf id) ?_
      | refine q_loadB rfl rfl tabOk rfl rfl (by assumption) (by rfl) ?_
      | refine q_loadAggB rfl rfl tabOk rfl rfl (by assumption) (by rfl) ?_
      | refine q_arith rfl rfl rfl rfl rfl (by simp only [lowK, hiK]; omega) ?_
      | refine q_rem rfl rfl rfl rfl (by omega) (by omega) ?_
      | refine q_quo rfl rfl rfl rfl (by omega) (by omega) (by simp only [hiK]; omega) ?_
      | refine q_index rfl rfl tabOk rfl rfl rfl (by omega) (by omega) ?_
      | refine q_convB rfl rfl tabOk rfl rfl rfl rfl ?_
      | refine q_conv rfl rfl tabOk rfl rfl rfl (by simp only [lowK, hiK]; omega) ?_)
    by_cases h1 : t < 0
    · rw [decide_eq_true h1]
      repeat (first
        | refine stepQF_ok tabOk (m := 400) rfl ?_
        | refine stepQF_ok tabOk (m := 16) rfl ?_
        | refine stepQF_ok tabOk (m := 3) rfl ?_
        | refine stepQF_ok tabOk (m := 0) rfl ?_
        | refine q_load rfl rfl tabOk rfl rfl (fun _ hf => cell_fr (by assumption) hf id) ?_
        | refine q_loadB rfl rfl tabOk rfl rfl (by assumption) (by rfl) ?_
        | refine q_loadAggB rfl rfl tabOk rfl rfl (by assumption) (by rfl) ?_
        | refine q_arith rfl rfl rfl rfl rfl (by simp only [lowK, hiK]; omega) ?_
        | refine q_rem rfl rfl rfl rfl (by omega) (by omega) ?_
        | refine q_quo rfl rfl rfl rfl (by omega) (by omega) (by simp only [hiK]; omega) ?_
        | refine q_index rfl rfl tabOk rfl rfl rfl (by omega) (by omega) ?_
        | refine q_convB rfl rfl tabOk rfl rfl rfl rfl ?_
        | refine q_conv rfl rfl tabOk rfl rfl rfl (by simp only [lowK, hiK]; omega) ?_)
      refine q_end fun w4 hf4 => ?_
      repeat (first
        | refine stepF_ok tabOk [] (m := 400) rfl ?_
        | refine stepF_ok tabOk [] (m := 16) rfl ?_
        | refine stepF_ok tabOk [] (m := 3) rfl ?_
        | refine stepF_ok tabOk [] (m := 0) rfl ?_
        | refine ev_load rfl rfl tabOk rfl rfl (by assumption) ?_
        | refine ev_loadB rfl rfl tabOk rfl rfl (by assumption) (by rfl) ?_
        | refine ev_loadAggB rfl rfl tabOk rfl rfl (by assumption) (by rfl) ?_
        | refine ev_arith rfl rfl rfl rfl rfl (by simp only [lowK, hiK]; omega) ?_
        | refine ev_rem rfl rfl rfl rfl (by omega) (by omega) ?_
        | refine ev_quo rfl rfl rfl rfl (by omega) (by omega) (by simp only [hiK]; omega) ?_
        | refine ev_index rfl rfl tabOk rfl rfl rfl (by omega) (by omega) ?_
        | refine ev_indexA rfl rfl tabOk rfl rfl rfl (by omega) (by omega) rfl ?_
        | refine ev_convB rfl rfl tabOk rfl rfl rfl rfl ?_
        | refine ev_conv rfl rfl tabOk rfl rfl rfl (by simp only [lowK, hiK]; omega) ?_)
      exact retG tabOk (.inr rfl) rfl [sv [], i64 k, i64 133] ⟨rfl, rfl, rfl, trivial⟩ (hbad (fun h => by have := h.1; omega) (hf.tr hf4))
    · rw [decide_eq_false h1]
      repeat (first
        | refine stepQF_ok tabOk (m := 400) rfl ?_
        | refine stepQF_ok tabOk (m := 16) rfl ?_
        | refine stepQF_ok tabOk (m := 3) rfl ?_
        | refine stepQF_ok tabOk (m := 0) rfl ?_
        | refine q_load rfl rfl tabOk rfl rfl (fun _ hf => cell_fr (by assumption) hf id) ?_
        | refine q_loadB rfl rfl tabOk rfl rfl (by assumption) (by rfl) ?_
        | refine q_loadAggB rfl rfl tabOk rfl rfl (by assumption) (by rfl) ?_
        | refine q_arith rfl rfl rfl rfl rfl (by simp only [lowK, hiK]; omega) ?_
        | refine q_rem rfl rfl rfl rfl (by omega) (by omega) ?_
        | refine q_quo rfl rfl rfl rfl (by omega) (by omega) (by simp only [hiK]; omega) ?_
        | refine q_index rfl rfl tabOk rfl rfl rfl (by omega) (by omega) ?_
        | refine q_convB rfl rfl tabOk rfl rfl rfl rfl ?_
        | refine q_conv rfl rfl tabOk rfl rfl rfl (by simp only [lowK, hiK]; omega) ?_)
      refine q_indexAddr (len := l.length) (i := k) rfl rfl tabOk rfl rfl rfl (by omega) (by omega) ?_
      repeat (first
        | refine stepQF_ok tabOk (m := 400) rfl ?_
        | refine stepQF_ok tabOk (m := 16) rfl ?_
        | refine stepQF_ok tabOk (m := 3) rfl ?_
        | refine stepQF_ok tabOk (m := 0) rfl ?_
        | refine q_load rfl rfl tabOk rfl rfl (fun _ hf => cell_fr (by assumption) hf id) ?_
        | refine q_loadB rfl rfl tabOk rfl rfl (by assumption) (by rfl) ?_
        | refine q_loadAggB rfl rfl tabOk rfl rfl (by assumption) (by rfl) ?_
        | refine q_arith rfl rfl rfl rfl rfl (by simp only [lowK, hiK]; omega) ?_
        | refine q_rem rfl rfl rfl rfl (by omega) (by omega) ?_
        | refine q_quo rfl rfl rfl rfl (by omega) (by omega) (by simp only [hiK]; omega) ?_
        | refine q_index rfl rfl tabOk rfl rfl rfl (by omega) (by omega) ?_
        | refine q_convB rfl rfl tabOk rfl rfl rfl rfl ?_
        | refine q_conv rfl rfl tabOk rfl rfl rfl (by simp only [lowK, hiK]; omega) ?_)
      refine q_end fun w4 hf4 => ?_
      have hB4 := hB.fr0 hf4
      have hf04 := hf.tr hf4
      have hcx4 := cell_fr hcx hf4 id
      clear hB hf hcx
      refine ev_condD rfl (fun h2 => ?_) (fun h2 => ?_)
      · repeat (first
          | refine stepF_ok tabOk [] (m := 400) rfl ?_
          | refine stepF_ok tabOk [] (m := 16) rfl ?_
          | refine stepF_ok tabOk [] (m := 3) rfl ?_
          | refine stepF_ok tabOk [] (m := 0) rfl ?_
          | refine ev_load rfl rfl tabOk rfl rfl (by assumption) ?_
          | refine ev_loadB rfl rfl tabOk rfl rfl (by assumption) (by rfl) ?_
          | refine ev_loadAggB rfl rfl tabOk rfl rfl (by assumption) (by rfl) ?_
          | refine ev_arith rfl rfl rfl rfl rfl (by simp only [lowK, hiK]; omega) ?_
          | refine ev_rem rfl rfl rfl rfl (by omega) (by omega) ?_
          | refine ev_quo rfl rfl rfl rfl (by omega) (by omega) (by simp only [hiK]; omega) ?_
          | refine ev_index rfl rfl tabOk rfl rfl rfl (by omega) (by omega) ?_
          | refine ev_indexA rfl rfl tabOk rfl rfl rfl (by omega) (by omega) rfl ?_
          | refine ev_convB rfl rfl tabOk rfl rfl rfl rfl ?_
          | refine ev_conv rfl rfl tabOk rfl rfl rfl (by simp only [lowK, hiK]; omega) ?_)
        exact retG tabOk (.inr rfl) rfl [sv [], i64 k, i64 133] ⟨rfl, rfl, rfl, trivial⟩ (hbad (fun h => by have := h.2; omega) hf04)
      · obtain ⟨n, hnn⟩ : ∃ n : Nat, t = n := ⟨t.toNat, by omega⟩
        obtain ⟨g2, o2, e2, hcy⟩ := strs_at (hV.fr0 hf04).1 (j := n) (by omega)
        subst e2
        have hcy : w4.cell? ⟨g2, o2 + t.toNat * 1, none⟩ = some (sv (v.t t.toNat)) := by rw [hnn]; exact hcy
        have hst := say_take (v := v) hk1
        rw [← ht] at hst
        have htl := (hok.texts n (by omega)).2.2
        have htn : t.toNat = n := by omega
        repeat (first
          | refine stepF_ok tabOk [] (m := 400) rfl ?_
          | refine stepF_ok tabOk [] (m := 16) rfl ?_
          | refine stepF_ok tabOk [] (m := 3) rfl ?_
          | refine stepF_ok tabOk [] (m := 0) rfl ?_
          | refine ev_load rfl rfl tabOk rfl rfl (by assumption) ?_
          | refine ev_loadB rfl rfl tabOk rfl rfl (by assumption) (by rfl) ?_
          | refine ev_loadAggB rfl rfl tabOk rfl rfl (by assumption) (by rfl) ?_
          | refine ev_arith rfl rfl rfl rfl rfl (by simp only [lowK, hiK]; omega) ?_
          | refine ev_rem rfl rfl rfl rfl (by omega) (by omega) ?_
          | refine ev_quo rfl rfl rfl rfl (by omega) (by omega) (by simp only [hiK]; omega) ?_
          | refine ev_index rfl rfl tabOk rfl rfl rfl (by omega) (by omega) ?_
          | refine ev_indexA rfl rfl tabOk rfl rfl rfl (by omega) (by omega) rfl ?_
          | refine ev_convB rfl rfl tabOk rfl rfl rfl rfl ?_
          | refine ev_conv rfl rfl tabOk rfl rfl rfl (by simp only [lowK, hiK]; omega) ?_)
        refine ev_draw mixed (by kernel_rfl) ?_
        repeat (first
          | refine stepQF_ok tabOk (m := 400) rfl ?_
          | refine stepQF_ok tabOk (m := 16) rfl ?_
          | refine stepQF_ok tabOk (m := 3) rfl ?_
          | refine stepQF_ok tabOk (m := 0) rfl ?_
          | refine q_load rfl rfl tabOk rfl rfl (fun _ hf => cell_fr (by assumption) hf id) ?_
          | refine q_loadB rfl rfl tabOk rfl rfl (by assumption) (by rfl) ?_
          | refine q_loadAggB rfl rfl tabOk rfl rfl (by assumption) (by rfl) ?_
          | refine q_arith rfl rfl rfl rfl rfl (by simp only [lowK, hiK]; omega) ?_
          | refine q_rem rfl rfl rfl rfl (by omega) (by omega) ?_
          | refine q_quo rfl rfl rfl rfl (by omega) (by omega) (by simp only [hiK]; omega) ?_
          | refine q_index rfl rfl tabOk rfl rfl rfl (by omega) (by omega) ?_
          | refine q_convB rfl rfl tabOk rfl rfl rfl rfl ?_
          | refine q_conv rfl rfl tabOk rfl rfl rfl (by simp only [lowK, hiK]; omega) ?_)
        refine q_indexAddr (len := l.length) (i := k) rfl rfl tabOk rfl rfl rfl (by omega) (by omega) ?_
        repeat (first
          | refine stepQF_ok tabOk (m := 400) rfl ?_
          | refine stepQF_ok tabOk (m := 16) rfl ?_
          | refine stepQF_ok tabOk (m := 3) rfl ?_
          | refine stepQF_ok tabOk (m := 0) rfl ?_
          | refine q_load rfl rfl tabOk rfl rfl (fun _ hf => cell_fr (by assumption) hf id) ?_
          | refine q_loadB rfl rfl tabOk rfl rfl (by assumption) (by rfl) ?_
          | refine q_loadAggB rfl rfl tabOk rfl rfl (by assumption) (by rfl) ?_
          | refine q_arith rfl rfl rfl rfl rfl (by simp only [lowK, hiK]; omega) ?_
          | refine q_rem rfl rfl rfl rfl (by omega) (by omega) ?_
          | refine q_quo rfl rfl rfl rfl (by omega) (by omega) (by simp only [hiK]; omega) ?_
          | refine q_index rfl rfl tabOk rfl rfl rfl (by omega) (by omega) ?_
          | refine q_convB rfl rfl tabOk rfl rfl rfl rfl ?_
          | refine q_conv rfl rfl tabOk rfl rfl rfl (by simp only [lowK, hiK]; omega) ?_)
        refine q_indexAddr (len := v.texts.length) (i := t) rfl rfl tabOk rfl rfl rfl (by omega) (by omega) ?_
        repeat (first
          | refine stepQF_ok tabOk (m := 400) rfl ?_
          | refine stepQF_ok tabOk (m := 16) rfl ?_
          | refine stepQF_ok tabOk (m := 3) rfl ?_
          | refine stepQF_ok tabOk (m := 0) rfl ?_
          | refine q_load rfl rfl tabOk rfl rfl (fun _ hf => cell_fr (by assumption) hf id) ?_
          | refine q_loadB rfl rfl tabOk rfl rfl (by assumption) (by rfl) ?_
          | refine q_loadAggB rfl rfl tabOk rfl rfl (by assumption) (by rfl) ?_
          | refine q_arith rfl rfl rfl rfl rfl (by simp only [lowK, hiK]; omega) ?_
          | refine q_rem rfl rfl rfl rfl (by omega) (by omega) ?_
          | refine q_quo rfl rfl rfl rfl (by omega) (by omega) (by simp only [hiK]; omega) ?_
          | refine q_index rfl rfl tabOk rfl rfl rfl (by omega) (by omega) ?_
          | refine q_convB rfl rfl tabOk rfl rfl rfl rfl ?_
          | refine q_conv rfl rfl tabOk rfl rfl rfl (by simp only [lowK, hiK]; omega) ?_)
        refine q_concat rfl rfl rfl rfl (by rw [htn]; omega) ?_
        rw [← hst]
        repeat (first
          | refine stepQF_ok tabOk (m := 400) rfl ?_
          | refine stepQF_ok tabOk (m := 16) rfl ?_
          | refine stepQF_ok tabOk (m := 3) rfl ?_
          | refine stepQF_ok tabOk (m := 0) rfl ?_
          | refine q_load rfl rfl tabOk rfl rfl (fun _ hf => cell_fr (by assumption) hf id) ?_
          | refine q_loadB rfl rfl tabOk rfl rfl (by assumption) (by rfl) ?_
          | refine q_loadAggB rfl rfl tabOk rfl rfl (by assumption) (by rfl) ?_
          | refine q_arith rfl rfl rfl rfl rfl (by simp only [lowK, hiK]; omega) ?_
          | refine q_rem rfl rfl rfl rfl (by omega) (by omega) ?_
          | refine q_quo rfl rfl rfl rfl (by omega) (by omega) (by simp only [hiK]; omega) ?_
          | refine q_index rfl rfl tabOk rfl rfl rfl (by omega) (by omega) ?_
          | refine q_convB rfl rfl tabOk rfl rfl rfl rfl ?_
          | refine q_conv rfl rfl tabOk rfl rfl rfl (by simp only [lowK, hiK]; omega) ?_)
        refine q_end fun w5 hf5 => ?_
        repeat (first
          | refine stepF_ok tabOk [] (m := 400) rfl ?_
          | refine stepF_ok tabOk [] (m := 16) rfl ?_
          | refine stepF_ok tabOk [] (m := 3) rfl ?_
          | refine stepF_ok tabOk [] (m := 0) rfl ?_
          | refine ev_load rfl rfl tabOk rfl rfl (by assumption) ?_
          | refine ev_loadB rfl rfl tabOk rfl rfl (by assumption) (by rfl) ?_
          | refine ev_loadAggB rfl rfl tabOk rfl rfl (by assumption) (by rfl) ?_
          | refine ev_arith rfl rfl rfl rfl rfl (by simp only [lowK, hiK]; omega) ?_
          | refine ev_rem rfl rfl rfl rfl (by omega) (by omega) ?_
          | refine ev_quo rfl rfl rfl rfl (by omega) (by omega) (by simp only [hiK]; omega) ?_
          | refine ev_index rfl rfl tabOk rfl rfl rfl (by omega) (by omega) ?_
          | refine ev_indexA rfl rfl tabOk rfl rfl rfl (by omega) (by omega) rfl ?_
          | refine ev_convB rfl rfl tabOk rfl rfl rfl rfl ?_
          | refine ev_conv rfl rfl tabOk rfl rfl rfl (by simp only [lowK, hiK]; omega) ?_)
        refine ev_next (k + 1) (by omega) ⟨by omega, fun j hj => ?_, hf04.tr hf5, hB4.fr0 hf5⟩ ⟨rfl, rfl, rfl, rfl, trivial⟩
        by_cases e : j = k
        · subst e; rw [← ht]; exact ⟨by omega, by omega⟩
        · exact hall j (by omega)
  · have hkn : k = l.length := by omega
    subst hkn
    repeat (first
      | refine stepF_ok tabOk [] (m := 400) rfl ?_
      | refine stepF_ok tabOk [] (m := 16) rfl ?_
      | refine stepF_ok tabOk [] (m := 3) rfl ?_
      | refine stepF_ok tabOk [] (m := 0) rfl ?_
      | refine ev_load rfl rfl tabOk rfl rfl (by assumption) ?_
      | refine ev_loadB rfl rfl tabOk rfl rfl (by assumption) (by rfl) ?_
      | refine ev_loadAggB rfl rfl tabOk rfl rfl (by assumption) (by rfl) ?_
      | refine ev_arith rfl rfl rfl rfl rfl (by simp only [lowK, hiK]; omega) ?_
      | refine ev_rem rfl rfl rfl rfl (by omega) (by omega) ?_
      | refine ev_quo rfl rfl rfl rfl (by omega) (by omega) (by simp only [hiK]; omega) ?_
      | refine ev_index rfl rfl tabOk rfl rfl rfl (by omega) (by omega) ?_
      | refine ev_indexA rfl rfl tabOk rfl rfl rfl (by omega) (by omega) rfl ?_
      | refine ev_convB rfl rfl tabOk rfl rfl rfl rfl ?_
      | refine ev_conv rfl rfl tabOk rfl rfl rfl (by simp only [lowK, hiK]; omega) ?_)
    refine retG tabOk (.inr rfl) rfl [sv (v.say (l.take l.length)), i64 0, i64 0] ⟨rfl, rfl, rfl, trivial⟩ ⟨by unfold decR; rw [dec_all h0 hall, List.take_length]; rfl, hf⟩

/-- the small vocabulary -/
def smallV : VV := ⟨[[], [97], [98], [97, 98], [97, 98, 98]], [(1, 2, 3), (3, 2, 4)]⟩
theorem smallS : VS smallV := ⟨by decide, by decide, by decide⟩
theorem wSmall (w : World) : CallsF Try.prog 32 [] w fun r w' => (∃ A c B d, r = vv A c B d smallV ∧ Vo w' A B smallV) ∧ Fr no w w' := by
  refine callsF Try.func32 rfl rfl (by decide) rfl ?_
  repeat (first
    | refine stepF_ok tabOk [] (m := 400) rfl ?_
    | refine stepF_ok tabOk [] (m := 16) rfl ?_
    | refine stepF_ok tabOk [] (m := 3) rfl ?_
    | refine stepF_ok tabOk [] (m := 0) rfl ?_
    | refine ev_load rfl rfl tabOk rfl rfl (by assumption) ?_
    | refine ev_loadB rfl rfl tabOk rfl rfl (by assumption) (by rfl) ?_
    | refine ev_loadAggB rfl rfl tabOk rfl rfl (by assumption) (by rfl) ?_
    | refine ev_arith rfl rfl rfl rfl rfl (by simp only [lowK, hiK]; omega) ?_
    | refine ev_rem rfl rfl rfl rfl (by omega) (by omega) ?_
    | refine ev_quo rfl rfl rfl rfl (by omega) (by omega) (by simp only [hiK]; omega) ?_
    | refine ev_index rfl rfl tabOk rfl rfl rfl (by omega) (by omega) ?_
    | refine ev_indexA rfl rfl tabOk rfl rfl rfl (by omega) (by omega) rfl ?_
    | refine ev_convB rfl rfl tabOk rfl rfl rfl rfl ?_
    | refine ev_conv rfl rfl tabOk rfl rfl rfl (by simp only [lowK, hiK]; omega) ?_)
  refine ev_alloc rfl rfl inf25 (fun p w1 hp hP hf1 => ?_)
  repeat (first
    | refine stepF_ok tabOk [] (m := 400) rfl ?_
    | refine stepF_ok tabOk [] (m := 16) rfl ?_
    | refine stepF_ok tabOk [] (m := 3) rfl ?_
    | refine stepF_ok tabOk [] (m := 0) rfl ?_
    | refine ev_load rfl rfl tabOk rfl rfl (by assumption) ?_
    | refine ev_loadB rfl rfl tabOk rfl rfl (by assumption) (by rfl) ?_
    | refine ev_loadAggB rfl rfl tabOk rfl rfl (by assumption) (by rfl) ?_
    | refine ev_arith rfl rfl rfl rfl rfl (by simp only [lowK, hiK]; omega) ?_
    | refine ev_rem rfl rfl rfl rfl (by omega) (by omega) ?_
    | refine ev_quo rfl rfl rfl rfl (by omega) (by omega) (by simp only [hiK]; omega) ?_
    | refine ev_index rfl rfl tabOk rfl rfl rfl (by omega) (by omega) ?_
    | refine ev_indexA rfl rfl tabOk rfl rfl rfl (by omega) (by omega) rfl ?_
    | refine ev_convB rfl rfl tabOk rfl rfl rfl rfl ?_
    | refine ev_conv rfl rfl tabOk rfl rfl rfl (by simp only [lowK, hiK]; omega) ?_)
  refine ev_buildSlice tabOk rfl rfl rfl inf9 rfl rfl rfl (by simp [Value.cells]) rfl (fun q w2 hq hQ hf2 => ?_)
  repeat (first
    | refine stepF_ok tabOk [] (m := 400) rfl ?_
    | refine stepF_ok tabOk [] (m := 16) rfl ?_
    | refine stepF_ok tabOk [] (m := 3) rfl ?_
    | refine stepF_ok tabOk [] (m := 0) rfl ?_
    | refine ev_load rfl rfl tabOk rfl rfl (by assumption) ?_
    | refine ev_loadB rfl rfl tabOk rfl rfl (by assumption) (by rfl) ?_
    | refine ev_loadAggB rfl rfl tabOk rfl rfl (by assumption) (by rfl) ?_
    | refine ev_arith rfl rfl rfl rfl rfl (by simp only [lowK, hiK]; omega) ?_
    | refine ev_rem rfl rfl rfl rfl (by omega) (by omega) ?_
    | refine ev_quo rfl rfl rfl rfl (by omega) (by omega) (by simp only [hiK]; omega) ?_
    | refine ev_index rfl rfl tabOk rfl rfl rfl (by omega) (by omega) ?_
    | refine ev_indexA rfl rfl tabOk rfl rfl rfl (by omega) (by omega) rfl ?_
    | refine ev_convB rfl rfl tabOk rfl rfl rfl rfl ?_
    | refine ev_conv rfl rfl tabOk rfl rfl rfl (by simp only [lowK, hiK]; omega) ?_)
  refine ev_build rfl rfl (v := mrgV (1, 2, 3)) rfl (fun w => by kernel_rfl) ?_
  refine ev_build rfl rfl (v := mrgV (3, 2, 4)) rfl (fun w => by kernel_rfl) ?_
  refine ev_buildSlice tabOk rfl rfl rfl inf51 rfl rfl rfl (by simp [Value.cells]) rfl (fun s w3 hs hS hf3 => ?_)
  refine ev_build rfl rfl (v := .agg #[.slice (some ⟨q, 0, none⟩) 5 5, .slice (some ⟨s, 0, none⟩) 2 2]) rfl (fun w => by kernel_rfl) ?_
  have hP3 := (hP.fr0 hf2).fr0 hf3
  have hpl := hP.lt
  have hz2 := hf2.size
  refine ev_storeAgg tabOk rfl rfl rfl rfl rfl rfl hP3 rfl (fun w4 hP4 hf4 => ?_)
  repeat (first
    | refine stepF_ok tabOk [] (m := 400) rfl ?_
    | refine stepF_ok tabOk [] (m := 16) rfl ?_
    | refine stepF_ok tabOk [] (m := 3) rfl ?_
    | refine stepF_ok tabOk [] (m := 0) rfl ?_
    | refine ev_load rfl rfl tabOk rfl rfl (by assumption) ?_
    | refine ev_loadB rfl rfl tabOk rfl rfl (by assumption) (by rfl) ?_
    | refine ev_loadAggB rfl rfl tabOk rfl rfl (by assumption) (by rfl) ?_
    | refine ev_arith rfl rfl rfl rfl rfl (by simp only [lowK, hiK]; omega) ?_
    | refine ev_rem rfl rfl rfl rfl (by omega) (by omega) ?_
    | refine ev_quo rfl rfl rfl rfl (by omega) (by omega) (by simp only [hiK]; omega) ?_
    | refine ev_index rfl rfl tabOk rfl rfl rfl (by omega) (by omega) ?_
    | refine ev_indexA rfl rfl tabOk rfl rfl rfl (by omega) (by omega) rfl ?_
    | refine ev_convB rfl rfl tabOk rfl rfl rfl rfl ?_
    | refine ev_conv rfl rfl tabOk rfl rfl rfl (by simp only [lowK, hiK]; omega) ?_)
  refine retG tabOk (.inr rfl) rfl [vv (some ⟨q, 0, none⟩) 5 (some ⟨s, 0, none⟩) 2 smallV] ⟨⟨_, rfl, .inl ⟨rfl, _, rfl, rfl, Cs.of_blk hP4⟩⟩, trivial⟩ ⟨⟨_, _, _, _, rfl, Cs.of_blk ((hQ.fr0 hf3).fr hf4 (fun e => by have : q = p := e; omega)), Cs.of_blk (hS.fr hf4 (fun e => by have : s = p := e; omega))⟩, ((hf1.tr hf2).tr hf3).trans hf4 (fun b hb e => by have : b = p := e; omega)⟩
end Go.Wk.Ytjdfdahdobikmaa
