/-
  WireTwo: the walk.
-/
import Derived.Test.YtihjpjpellagiaaWireV
set_option linter.unusedVariables false
namespace Go.Wk.Ytihjpjpellagiaa
open Go Go.Wk Go.Proofs

set_option maxHeartbeats 4000000 in
theorem wireTwo (s t : List UInt8) (A1 : Option Addr) (c1 : Nat) (l1 : List OpV) (A2 : Option Addr) (c2 : Nat) (l2 : List OpV) (W : World) (hO1 : OpsC W A1 l1) (hO2 : OpsC W A2 l2) (hv1 : volB l1 ≤ 100000000) (hv2 : volB l2 ≤ 100000000)
    (hs : s.length ≤ 100000000) (ht : t.length ≤ 100000000) :
    CallsF Try.prog 7 [.agg ⟨[.slice A1 l1.length c1, .slice A2 l2.length c2, .string (sOf s), .string (sOf t)]⟩] W fun r w' => r = .bool true ∧ Fr no W w' := by
  have hl1 : l1.length ≤ 100000000 := Nat.le_trans (volB_len l1) hv1
  have hl2 : l2.length ≤ 100000000 := Nat.le_trans (volB_len l2) hv2
  refine callsF Try.func7 rfl rfl (by decide) rfl ?_
  repeat (first
    | refine stepF_ok tabOk [] (m := 400) rfl ?_
    | refine stepF_ok tabOk [] (m := 16) rfl ?_
    | refine stepF_ok tabOk [] (m := 3) rfl ?_
    | refine stepF_ok tabOk [] (m := 0) rfl ?_
    | refine ev_load rfl rfl tabOk rfl rfl (by assumption) ?_
    | refine ev_loadB rfl rfl tabOk rfl rfl (by assumption) (by rfl) ?_
    | refine ev_loadAggB rfl rfl tabOk rfl rfl (by assumption) (by rfl) ?_
    | refine ev_arith rfl rfl rfl rfl rfl (by simp only [lowK, hiK]; omega) ?_
    | refine ev_rem rfl rfl rfl rfl (by omega) (by omega) ?_
    | refine ev_quo rfl rfl rfl rfl (by omega) (by omega) (by simp only [hiK]; omega) ?_
    | refine ev_index rfl rfl tabOk rfl rfl rfl (by omega) (by omega) ?_
    | refine ev_indexA rfl rfl tabOk rfl rfl rfl (by omega) (by omega) rfl ?_
    | refine ev_convB rfl rfl tabOk rfl rfl rfl rfl ?_
    | refine ev_conv rfl rfl tabOk rfl rfl rfl (by simp only [lowK, hiK]; omega) ?_)
  refine ev_box rfl rfl rfl (fun b w1 hb hB hf1 => ?_)
  have d0 : w1.cell? ⟨b, 0, none⟩ = some (.slice A1 l1.length c1) := hB.cell rfl
  have d1 : w1.cell? ⟨b, 1, none⟩ = some (.slice A2 l2.length c2) := hB.cell rfl
  have d2 : w1.cell? ⟨b, 2, none⟩ = some (.string (sOf s)) := hB.cell rfl
  have d3 : w1.cell? ⟨b, 3, none⟩ = some (.string (sOf t)) := hB.cell rfl
  repeat (first
    | refine stepF_ok tabOk [] (m := 400) rfl ?_
    | refine stepF_ok tabOk [] (m := 16) rfl ?_
    | refine stepF_ok tabOk [] (m := 3) rfl ?_
    | refine stepF_ok tabOk [] (m := 0) rfl ?_
    | refine ev_load rfl rfl tabOk rfl rfl (by assumption) ?_
    | refine ev_loadB rfl rfl tabOk rfl rfl (by assumption) (by rfl) ?_
    | refine ev_loadAggB rfl rfl tabOk rfl rfl (by assumption) (by rfl) ?_
    | refine ev_arith rfl rfl rfl rfl rfl (by simp only [lowK, hiK]; omega) ?_
    | refine ev_rem rfl rfl rfl rfl (by omega) (by omega) ?_
    | refine ev_quo rfl rfl rfl rfl (by omega) (by omega) (by simp only [hiK]; omega) ?_
    | refine ev_index rfl rfl tabOk rfl rfl rfl (by omega) (by omega) ?_
    | refine ev_indexA rfl rfl tabOk rfl rfl rfl (by omega) (by omega) rfl ?_
    | refine ev_convB rfl rfl tabOk rfl rfl rfl rfl ?_
    | refine ev_conv rfl rfl tabOk rfl rfl rfl (by simp only [lowK, hiK]; omega) ?_)
  refine ev_draw mixed (by kernel_rfl) ?_
  repeat (first
    | refine stepQF_ok tabOk (m := 400) rfl ?_
    | refine stepQF_ok tabOk (m := 16) rfl ?_
    | refine stepQF_ok tabOk (m := 3) rfl ?_
    | refine stepQF_ok tabOk (m := 0) rfl ?_
    | refine q_load rfl rfl tabOk rfl rfl (fun _ hf => cell_fr (by assumption) hf id) ?_
    | refine q_arith rfl rfl rfl rfl rfl (by simp only [lowK, hiK]; omega) ?_
    | refine q_rem rfl rfl rfl rfl (by omega) (by omega) ?_
    | refine q_quo rfl rfl rfl rfl (by omega) (by omega) (by simp only [hiK]; omega) ?_
    | refine q_index rfl rfl tabOk rfl rfl rfl (by omega) (by omega) ?_
    | refine q_convB rfl rfl tabOk rfl rfl rfl rfl ?_
    | refine q_conv rfl rfl tabOk rfl rfl rfl (by simp only [lowK, hiK]; omega) ?_)
  refine q_end fun w2 hf2 => ?_
  clear d0 d1 d2 d3
  have hf2 := hf1.tr hf2
  clear hf1 hB hb
  repeat (first
    | refine stepF_ok tabOk [] (m := 400) rfl ?_
    | refine stepF_ok tabOk [] (m := 16) rfl ?_
    | refine stepF_ok tabOk [] (m := 3) rfl ?_
    | refine stepF_ok tabOk [] (m := 0) rfl ?_
    | refine ev_load rfl rfl tabOk rfl rfl (by assumption) ?_
    | refine ev_loadB rfl rfl tabOk rfl rfl (by assumption) (by rfl) ?_
    | refine ev_loadAggB rfl rfl tabOk rfl rfl (by assumption) (by rfl) ?_
    | refine ev_arith rfl rfl rfl rfl rfl (by simp only [lowK, hiK]; omega) ?_
    | refine ev_rem rfl rfl rfl rfl (by omega) (by omega) ?_
    | refine ev_quo rfl rfl rfl rfl (by omega) (by omega) (by simp only [hiK]; omega) ?_
    | refine ev_index rfl rfl tabOk rfl rfl rfl (by omega) (by omega) ?_
    | refine ev_indexA rfl rfl tabOk rfl rfl rfl (by omega) (by omega) rfl ?_
    | refine ev_convB rfl rfl tabOk rfl rfl rfl rfl ?_
    | refine ev_conv rfl rfl tabOk rfl rfl rfl (by simp only [lowK, hiK]; omega) ?_)
  refine ev_call rfl rfl rfl (newWriter _) (fun r w3 hr => ?_)
  obtain ⟨pa, rfl, hpa, hA3, hf3⟩ := hr
  repeat (first
    | refine stepF_ok tabOk [] (m := 400) rfl ?_
    | refine stepF_ok tabOk [] (m := 16) rfl ?_
    | refine stepF_ok tabOk [] (m := 3) rfl ?_
    | refine stepF_ok tabOk [] (m := 0) rfl ?_
    | refine ev_load rfl rfl tabOk rfl rfl (by assumption) ?_
    | refine ev_loadB rfl rfl tabOk rfl rfl (by assumption) (by rfl) ?_
    | refine ev_loadAggB rfl rfl tabOk rfl rfl (by assumption) (by rfl) ?_
    | refine ev_arith rfl rfl rfl rfl rfl (by simp only [lowK, hiK]; omega) ?_
    | refine ev_rem rfl rfl rfl rfl (by omega) (by omega) ?_
    | refine ev_quo rfl rfl rfl rfl (by omega) (by omega) (by simp only [hiK]; omega) ?_
    | refine ev_index rfl rfl tabOk rfl rfl rfl (by omega) (by omega) ?_
    | refine ev_indexA rfl rfl tabOk rfl rfl rfl (by omega) (by omega) rfl ?_
    | refine ev_convB rfl rfl tabOk rfl rfl rfl rfl ?_
    | refine ev_conv rfl rfl tabOk rfl rfl rfl (by simp only [lowK, hiK]; omega) ?_)
  refine ev_call rfl rfl rfl (newWriter _) (fun r w4 hr => ?_)
  obtain ⟨pb, rfl, hpb, hB4, hf4⟩ := hr
  repeat (first
    | refine stepF_ok tabOk [] (m := 400) rfl ?_
    | refine stepF_ok tabOk [] (m := 16) rfl ?_
    | refine stepF_ok tabOk [] (m := 3) rfl ?_
    | refine stepF_ok tabOk [] (m := 0) rfl ?_
    | refine ev_load rfl rfl tabOk rfl rfl (by assumption) ?_
    | refine ev_loadB rfl rfl tabOk rfl rfl (by assumption) (by rfl) ?_
    | refine ev_loadAggB rfl rfl tabOk rfl rfl (by assumption) (by rfl) ?_
    | refine ev_arith rfl rfl rfl rfl rfl (by simp only [lowK, hiK]; omega) ?_
    | refine ev_rem rfl rfl rfl rfl (by omega) (by omega) ?_
    | refine ev_quo rfl rfl rfl rfl (by omega) (by omega) (by simp only [hiK]; omega) ?_
    | refine ev_index rfl rfl tabOk rfl rfl rfl (by omega) (by omega) ?_
    | refine ev_indexA rfl rfl tabOk rfl rfl rfl (by omega) (by omega) rfl ?_
    | refine ev_convB rfl rfl tabOk rfl rfl rfl rfl ?_
    | refine ev_conv rfl rfl tabOk rfl rfl rfl (by simp only [lowK, hiK]; omega) ?_)
  refine ev_call rfl rfl rfl (newReader s _) (fun r w5 hr => ?_)
  obtain ⟨px, rfl, hpx, hX5, hf5⟩ := hr
  repeat (first
    | refine stepF_ok tabOk [] (m := 400) rfl ?_
    | refine stepF_ok tabOk [] (m := 16) rfl ?_
    | refine stepF_ok tabOk [] (m := 3) rfl ?_
    | refine stepF_ok tabOk [] (m := 0) rfl ?_
    | refine ev_load rfl rfl tabOk rfl rfl (by assumption) ?_
    | refine ev_loadB rfl rfl tabOk rfl rfl (by assumption) (by rfl) ?_
    | refine ev_loadAggB rfl rfl tabOk rfl rfl (by assumption) (by rfl) ?_
    | refine ev_arith rfl rfl rfl rfl rfl (by simp only [lowK, hiK]; omega) ?_
    | refine ev_rem rfl rfl rfl rfl (by omega) (by omega) ?_
    | refine ev_quo rfl rfl rfl rfl (by omega) (by omega) (by simp only [hiK]; omega) ?_
    | refine ev_index rfl rfl tabOk rfl rfl rfl (by omega) (by omega) ?_
    | refine ev_indexA rfl rfl tabOk rfl rfl rfl (by omega) (by omega) rfl ?_
    | refine ev_convB rfl rfl tabOk rfl rfl rfl rfl ?_
    | refine ev_conv rfl rfl tabOk rfl rfl rfl (by simp only [lowK, hiK]; omega) ?_)
  refine ev_call rfl rfl rfl (newReader t _) (fun r w6 hr => ?_)
  obtain ⟨py, rfl, hpy, hY6, hf6⟩ := hr
  repeat (first
    | refine stepF_ok tabOk [] (m := 400) rfl ?_
    | refine stepF_ok tabOk [] (m := 16) rfl ?_
    | refine stepF_ok tabOk [] (m := 3) rfl ?_
    | refine stepF_ok tabOk [] (m := 0) rfl ?_
    | refine ev_load rfl rfl tabOk rfl rfl (by assumption) ?_
    | refine ev_loadB rfl rfl tabOk rfl rfl (by assumption) (by rfl) ?_
    | refine ev_loadAggB rfl rfl tabOk rfl rfl (by assumption) (by rfl) ?_
    | refine ev_arith rfl rfl rfl rfl rfl (by simp only [lowK, hiK]; omega) ?_
    | refine ev_rem rfl rfl rfl rfl (by omega) (by omega) ?_
    | refine ev_quo rfl rfl rfl rfl (by omega) (by omega) (by simp only [hiK]; omega) ?_
    | refine ev_index rfl rfl tabOk rfl rfl rfl (by omega) (by omega) ?_
    | refine ev_indexA rfl rfl tabOk rfl rfl rfl (by omega) (by omega) rfl ?_
    | refine ev_convB rfl rfl tabOk rfl rfl rfl rfl ?_
    | refine ev_conv rfl rfl tabOk rfl rfl rfl (by simp only [lowK, hiK]; omega) ?_)
  refine ev_call rfl rfl rfl (awake _) (fun r w7 hr => ?_)
  obtain ⟨rfl, hf7⟩ := hr
  repeat (first
    | refine stepF_ok tabOk [] (m := 400) rfl ?_
    | refine stepF_ok tabOk [] (m := 16) rfl ?_
    | refine stepF_ok tabOk [] (m := 3) rfl ?_
    | refine stepF_ok tabOk [] (m := 0) rfl ?_
    | refine ev_load rfl rfl tabOk rfl rfl (by assumption) ?_
    | refine ev_loadB rfl rfl tabOk rfl rfl (by assumption) (by rfl) ?_
    | refine ev_loadAggB rfl rfl tabOk rfl rfl (by assumption) (by rfl) ?_
    | refine ev_arith rfl rfl rfl rfl rfl (by simp only [lowK, hiK]; omega) ?_
    | refine ev_rem rfl rfl rfl rfl (by omega) (by omega) ?_
    | refine ev_quo rfl rfl rfl rfl (by omega) (by omega) (by simp only [hiK]; omega) ?_
    | refine ev_index rfl rfl tabOk rfl rfl rfl (by omega) (by omega) ?_
    | refine ev_indexA rfl rfl tabOk rfl rfl rfl (by omega) (by omega) rfl ?_
    | refine ev_convB rfl rfl tabOk rfl rfl rfl rfl ?_
    | refine ev_conv rfl rfl tabOk rfl rfl rfl (by simp only [lowK, hiK]; omega) ?_)
  refine ev_build rfl rfl (v := .agg #[.string (sOf s), .int .i64 0]) rfl (fun w => by kernel_rfl) ?_
  repeat (first
    | refine stepF_ok tabOk [] (m := 400) rfl ?_
    | refine stepF_ok tabOk [] (m := 16) rfl ?_
    | refine stepF_ok tabOk [] (m := 3) rfl ?_
    | refine stepF_ok tabOk [] (m := 0) rfl ?_
    | refine ev_load rfl rfl tabOk rfl rfl (by assumption) ?_
    | refine ev_loadB rfl rfl tabOk rfl rfl (by assumption) (by rfl) ?_
    | refine ev_loadAggB rfl rfl tabOk rfl rfl (by assumption) (by rfl) ?_
    | refine ev_arith rfl rfl rfl rfl rfl (by simp only [lowK, hiK]; omega) ?_
    | refine ev_rem rfl rfl rfl rfl (by omega) (by omega) ?_
    | refine ev_quo rfl rfl rfl rfl (by omega) (by omega) (by simp only [hiK]; omega) ?_
    | refine ev_index rfl rfl tabOk rfl rfl rfl (by omega) (by omega) ?_
    | refine ev_indexA rfl rfl tabOk rfl rfl rfl (by omega) (by omega) rfl ?_
    | refine ev_convB rfl rfl tabOk rfl rfl rfl rfl ?_
    | refine ev_conv rfl rfl tabOk rfl rfl rfl (by simp only [lowK, hiK]; omega) ?_)
  refine ev_build rfl rfl (v := .agg #[.string (sOf t), .int .i64 0]) rfl (fun w => by kernel_rfl) ?_
  refine ev_alloc rfl rfl inf58 (fun qm w8 hqm hM8 hf8 => ?_)
  refine ev_alloc rfl rfl inf58 (fun qn w9 hqn hN9 hf9 => ?_)
  refine ev_storeAgg tabOk rfl rfl rfl rfl rfl rfl (hM8.fr0 hf9) rfl (fun w10 hM10 hf10 => ?_)
  have hmn : qn ≠ qm := fun e => by have := hM8.lt; omega
  refine ev_storeAgg tabOk rfl rfl rfl rfl rfl rfl (hN9.fr hf10 hmn) rfl (fun w11 hN11 hf11 => ?_)
  have la := hA3.1.lt; have lb := hB4.1.lt; have lx := hX5.lt; have ly := hY6.lt; have lm := hM8.lt; have ln := hN9.lt
  have s2 := hf2.size; have s3 := hf3.size; have s4 := hf4.size; have s5 := hf5.size; have s6 := hf6.size; have s7 := hf7.size; have s8 := hf8.size; have s9 := hf9.size; have s10 := hf10.size; have s11 := hf11.size
  obtain ⟨z, hz1, hz2, hz3, hz4, hz5, hz6, hz7⟩ : ∃ z : Six, z.pa = pa ∧ z.pb = pb ∧ z.px = px ∧ z.py = py ∧ z.qm = qm ∧ z.qn = qn ∧ z.B = w11.heap.size := ⟨⟨pa, pb, px, py, qm, qn, _⟩, rfl, rfl, rfl, rfl, rfl, rfl, rfl⟩
  subst hz1 hz2 hz3 hz4 hz5 hz6
  have hz : z.ok W := by unfold Six.ok; omega
  have f79 : Fr no w7 w9 := hf8.tr hf9
  have f69 : Fr no w6 w9 := hf7.tr f79
  have f59 : Fr no w5 w9 := hf6.tr f69
  have f49 : Fr no w4 w9 := hf5.tr f59
  have f39 : Fr no w3 w9 := hf4.tr f49
  have fW9 : Fr no W w9 := (hf2.tr hf3).tr f39
  have hI : TI z W w11 (rawB (l1.take 0)) (rawB (l2.take 0)) s t (posA s (l1.take 0)) (posA t (l2.take 0)) (posA s (l1.take 0)) (posA t (l2.take 0)) :=
    ⟨_, _, ((hA3.fr0 f39).fr hf10 (fun e => by omega) (fun g hg => by cases hg)).fr hf11 (fun e => by omega) (fun g hg => by cases hg), ((hB4.fr0 f49).fr hf10 (fun e => by omega) (fun g hg => by cases hg)).fr hf11 (fun e => by omega) (fun g hg => by cases hg),
      ((hX5.fr0 f59).fr hf10 (fun e => by omega)).fr hf11 (fun e => by omega), ((hY6.fr0 f69).fr hf10 (fun e => by omega)).fr hf11 (fun e => by omega), hM10.fr hf11 (fun e => hmn e.symm), hN11,
      (fW9.trans hf10 (fun u hu e => by omega)).trans hf11 (fun u hu e => by omega), by omega, fun g hg => (by cases hg), fun g hg => (by cases hg), fun g hg => (by cases hg)⟩
  clear la lb lx ly lm ln s2 s3 s4 s5 s6 s7 s8 s9 s10 s11 f79 f69 f59 f49 f39 fW9 hf2 hf3 hf4 hf5 hf6 hf7 hf8 hf9 hf10 hf11 hA3 hB4 hX5 hY6 hM8 hN9 hM10 hN11 hpa hpb hpx hpy hqm hqn hmn hz7
  repeat (first
    | refine stepF_ok tabOk [] (m := 400) rfl ?_
    | refine stepF_ok tabOk [] (m := 16) rfl ?_
    | refine stepF_ok tabOk [] (m := 3) rfl ?_
    | refine stepF_ok tabOk [] (m := 0) rfl ?_
    | refine ev_load rfl rfl tabOk rfl rfl (by assumption) ?_
    | refine ev_loadB rfl rfl tabOk rfl rfl (by assumption) (by rfl) ?_
    | refine ev_loadAggB rfl rfl tabOk rfl rfl (by assumption) (by rfl) ?_
    | refine ev_arith rfl rfl rfl rfl rfl (by simp only [lowK, hiK]; omega) ?_
    | refine ev_rem rfl rfl rfl rfl (by omega) (by omega) ?_
    | refine ev_quo rfl rfl rfl rfl (by omega) (by omega) (by simp only [hiK]; omega) ?_
    | refine ev_index rfl rfl tabOk rfl rfl rfl (by omega) (by omega) ?_
    | refine ev_indexA rfl rfl tabOk rfl rfl rfl (by omega) (by omega) rfl ?_
    | refine ev_convB rfl rfl tabOk rfl rfl rfl rfl ?_
    | refine ev_conv rfl rfl tabOk rfl rfl rfl (by simp only [lowK, hiK]; omega) ?_)
  refine ev_loop (α := Nat) (fun k => [(3, .slice A1 l1.length c1), (4, .slice A2 l2.length c2), (5, .string (sOf s)), (6, .string (sOf t)), (7, .pointer (some ⟨z.pa, 0, none⟩)), (8, .pointer (some ⟨z.pb, 0, none⟩)), (9, .pointer (some ⟨z.px, 0, none⟩)), (10, .pointer (some ⟨z.py, 0, none⟩)), (11, .string (sOf (rawB (l1.take k)))), (12, .string (sOf (rawB (l2.take k)))), (13, .pointer (some ⟨z.qm, 0, none⟩)), (14, .pointer (some ⟨z.qn, 0, none⟩)), (15, .int .i64 k)])
    (fun k w' => k ≤ l1.length + l2.length ∧ TI z W w' (rawB (l1.take k)) (rawB (l2.take k)) s t (posA s (l1.take k)) (posA t (l2.take k)) (posA s (l1.take k)) (posA t (l2.take k))) (fun k => l1.length + l2.length + 1 - k) 0 ⟨rfl, rfl, rfl, rfl, rfl, rfl, rfl, rfl, rfl, rfl, rfl, rfl, rfl, trivial⟩ ⟨Nat.zero_le _, hI⟩ ?_
  clear hI
  rintro k w ⟨hk, hI⟩
  repeat (first
    | refine stepF_ok tabOk [] (m := 400) rfl ?_
    | refine stepF_ok tabOk [] (m := 16) rfl ?_
    | refine stepF_ok tabOk [] (m := 3) rfl ?_
    | refine stepF_ok tabOk [] (m := 0) rfl ?_
    | refine ev_load rfl rfl tabOk rfl rfl (by assumption) ?_
    | refine ev_loadB rfl rfl tabOk rfl rfl (by assumption) (by rfl) ?_
    | refine ev_loadAggB rfl rfl tabOk rfl rfl (by assumption) (by rfl) ?_
    | refine ev_arith rfl rfl rfl rfl rfl (by simp only [lowK, hiK]; omega) ?_
    | refine ev_rem rfl rfl rfl rfl (by omega) (by omega) ?_
    | refine ev_quo rfl rfl rfl rfl (by omega) (by omega) (by simp only [hiK]; omega) ?_
    | refine ev_index rfl rfl tabOk rfl rfl rfl (by omega) (by omega) ?_
    | refine ev_indexA rfl rfl tabOk rfl rfl rfl (by omega) (by omega) rfl ?_
    | refine ev_convB rfl rfl tabOk rfl rfl rfl rfl ?_
    | refine ev_conv rfl rfl tabOk rfl rfl rfl (by simp only [lowK, hiK]; omega) ?_)
  refine ev_join2 (α := Unit) (fun _ => [(3, .slice A1 l1.length c1), (4, .slice A2 l2.length c2), (5, .string (sOf s)), (6, .string (sOf t)), (7, .pointer (some ⟨z.pa, 0, none⟩)), (8, .pointer (some ⟨z.pb, 0, none⟩)), (9, .pointer (some ⟨z.px, 0, none⟩)), (10, .pointer (some ⟨z.py, 0, none⟩)), (11, .string (sOf (rawB (l1.take k)))), (12, .string (sOf (rawB (l2.take k)))), (13, .pointer (some ⟨z.qm, 0, none⟩)), (14, .pointer (some ⟨z.qn, 0, none⟩)), (15, .int .i64 k)]) (fun _ w' => w' = w ∧ (k < l1.length ∨ k < l2.length)) ?_ ?_
  · refine ev_guardD rfl rfl (fun h1 => ?_) (fun h1 => ?_)
    · repeat (first
        | refine stepF_ok tabOk [] (m := 400) rfl ?_
        | refine stepF_ok tabOk [] (m := 16) rfl ?_
        | refine stepF_ok tabOk [] (m := 3) rfl ?_
        | refine stepF_ok tabOk [] (m := 0) rfl ?_
        | refine ev_load rfl rfl tabOk rfl rfl (by assumption) ?_
        | refine ev_loadB rfl rfl tabOk rfl rfl (by assumption) (by rfl) ?_
        | refine ev_loadAggB rfl rfl tabOk rfl rfl (by assumption) (by rfl) ?_
        | refine ev_arith rfl rfl rfl rfl rfl (by simp only [lowK, hiK]; omega) ?_
        | refine ev_rem rfl rfl rfl rfl (by omega) (by omega) ?_
        | refine ev_quo rfl rfl rfl rfl (by omega) (by omega) (by simp only [hiK]; omega) ?_
        | refine ev_index rfl rfl tabOk rfl rfl rfl (by omega) (by omega) ?_
        | refine ev_indexA rfl rfl tabOk rfl rfl rfl (by omega) (by omega) rfl ?_
        | refine ev_convB rfl rfl tabOk rfl rfl rfl rfl ?_
        | refine ev_conv rfl rfl tabOk rfl rfl rfl (by simp only [lowK, hiK]; omega) ?_)
      exact ev_out () ⟨rfl, .inl (by omega)⟩ ⟨rfl, rfl, rfl, rfl, rfl, rfl, rfl, rfl, rfl, rfl, rfl, rfl, rfl, trivial⟩
    · repeat (first
        | refine stepF_ok tabOk [] (m := 400) rfl ?_
        | refine stepF_ok tabOk [] (m := 16) rfl ?_
        | refine stepF_ok tabOk [] (m := 3) rfl ?_
        | refine stepF_ok tabOk [] (m := 0) rfl ?_
        | refine ev_load rfl rfl tabOk rfl rfl (by assumption) ?_
        | refine ev_loadB rfl rfl tabOk rfl rfl (by assumption) (by rfl) ?_
        | refine ev_loadAggB rfl rfl tabOk rfl rfl (by assumption) (by rfl) ?_
        | refine ev_arith rfl rfl rfl rfl rfl (by simp only [lowK, hiK]; omega) ?_
        | refine ev_rem rfl rfl rfl rfl (by omega) (by omega) ?_
        | refine ev_quo rfl rfl rfl rfl (by omega) (by omega) (by simp only [hiK]; omega) ?_
        | refine ev_index rfl rfl tabOk rfl rfl rfl (by omega) (by omega) ?_
        | refine ev_indexA rfl rfl tabOk rfl rfl rfl (by omega) (by omega) rfl ?_
        | refine ev_convB rfl rfl tabOk rfl rfl rfl rfl ?_
        | refine ev_conv rfl rfl tabOk rfl rfl rfl (by simp only [lowK, hiK]; omega) ?_)
      refine ev_condD rfl (fun h2 => ?_) (fun h2 => ?_)
      · repeat (first
          | refine stepF_ok tabOk [] (m := 400) rfl ?_
          | refine stepF_ok tabOk [] (m := 16) rfl ?_
          | refine stepF_ok tabOk [] (m := 3) rfl ?_
          | refine stepF_ok tabOk [] (m := 0) rfl ?_
          | refine ev_load rfl rfl tabOk rfl rfl (by assumption) ?_
          | refine ev_loadB rfl rfl tabOk rfl rfl (by assumption) (by rfl) ?_
          | refine ev_loadAggB rfl rfl tabOk rfl rfl (by assumption) (by rfl) ?_
          | refine ev_arith rfl rfl rfl rfl rfl (by simp only [lowK, hiK]; omega) ?_
          | refine ev_rem rfl rfl rfl rfl (by omega) (by omega) ?_
          | refine ev_quo rfl rfl rfl rfl (by omega) (by omega) (by simp only [hiK]; omega) ?_
          | refine ev_index rfl rfl tabOk rfl rfl rfl (by omega) (by omega) ?_
          | refine ev_indexA rfl rfl tabOk rfl rfl rfl (by omega) (by omega) rfl ?_
          | refine ev_convB rfl rfl tabOk rfl rfl rfl rfl ?_
          | refine ev_conv rfl rfl tabOk rfl rfl rfl (by simp only [lowK, hiK]; omega) ?_)
        exact ev_out () ⟨rfl, .inr (by omega)⟩ ⟨rfl, rfl, rfl, rfl, rfl, rfl, rfl, rfl, rfl, rfl, rfl, rfl, rfl, trivial⟩
      · repeat (first
          | refine stepF_ok tabOk [] (m := 400) rfl ?_
          | refine stepF_ok tabOk [] (m := 16) rfl ?_
          | refine stepF_ok tabOk [] (m := 3) rfl ?_
          | refine stepF_ok tabOk [] (m := 0) rfl ?_
          | refine ev_load rfl rfl tabOk rfl rfl (by assumption) ?_
          | refine ev_loadB rfl rfl tabOk rfl rfl (by assumption) (by rfl) ?_
          | refine ev_loadAggB rfl rfl tabOk rfl rfl (by assumption) (by rfl) ?_
          | refine ev_arith rfl rfl rfl rfl rfl (by simp only [lowK, hiK]; omega) ?_
          | refine ev_rem rfl rfl rfl rfl (by omega) (by omega) ?_
          | refine ev_quo rfl rfl rfl rfl (by omega) (by omega) (by simp only [hiK]; omega) ?_
          | refine ev_index rfl rfl tabOk rfl rfl rfl (by omega) (by omega) ?_
          | refine ev_indexA rfl rfl tabOk rfl rfl rfl (by omega) (by omega) rfl ?_
          | refine ev_convB rfl rfl tabOk rfl rfl rfl rfl ?_
          | refine ev_conv rfl rfl tabOk rfl rfl rfl (by simp only [lowK, hiK]; omega) ?_)
        have e1 : l1.take k = l1 := List.take_of_length_le (by omega)
        have e2 : l2.take k = l2 := List.take_of_length_le (by omega)
        rw [e1, e2] at hI
        obtain ⟨va, vb, gA, gB, gX, gY, gM, gN, gW, gS, ga, gb, gab⟩ := id hI
        rw [e1, e2]
        have c1 : w.cell? ⟨z.qm, 1, none⟩ = some (.int .i64 (posA s l1)) := gM.cell rfl
        have c2 : w.cell? ⟨z.qn, 1, none⟩ = some (.int .i64 (posA t l2)) := gN.cell rfl
        refine ev_draw mixed (by kernel_rfl) ?_
        repeat (first
          | refine stepQF_ok tabOk (m := 400) rfl ?_
          | refine stepQF_ok tabOk (m := 16) rfl ?_
          | refine stepQF_ok tabOk (m := 3) rfl ?_
          | refine stepQF_ok tabOk (m := 0) rfl ?_
          | refine q_load rfl rfl tabOk rfl rfl (fun _ hf => cell_fr (by assumption) hf id) ?_
          | refine q_arith rfl rfl rfl rfl rfl (by simp only [lowK, hiK]; omega) ?_
          | refine q_rem rfl rfl rfl rfl (by omega) (by omega) ?_
          | refine q_quo rfl rfl rfl rfl (by omega) (by omega) (by simp only [hiK]; omega) ?_
          | refine q_index rfl rfl tabOk rfl rfl rfl (by omega) (by omega) ?_
          | refine q_convB rfl rfl tabOk rfl rfl rfl rfl ?_
          | refine q_conv rfl rfl tabOk rfl rfl rfl (by simp only [lowK, hiK]; omega) ?_)
        refine q_call rfl rfl rfl (fun w' hw' => (wrBytes z.pa va _ w' (gA.fr0 hw')).mono fun u w'' h => ⟨h.1, h.2 ▸ hw'⟩) ?_
        repeat (first
          | refine stepQF_ok tabOk (m := 400) rfl ?_
          | refine stepQF_ok tabOk (m := 16) rfl ?_
          | refine stepQF_ok tabOk (m := 3) rfl ?_
          | refine stepQF_ok tabOk (m := 0) rfl ?_
          | refine q_load rfl rfl tabOk rfl rfl (fun _ hf => cell_fr (by assumption) hf id) ?_
          | refine q_arith rfl rfl rfl rfl rfl (by simp only [lowK, hiK]; omega) ?_
          | refine q_rem rfl rfl rfl rfl (by omega) (by omega) ?_
          | refine q_quo rfl rfl rfl rfl (by omega) (by omega) (by simp only [hiK]; omega) ?_
          | refine q_index rfl rfl tabOk rfl rfl rfl (by omega) (by omega) ?_
          | refine q_convB rfl rfl tabOk rfl rfl rfl rfl ?_
          | refine q_conv rfl rfl tabOk rfl rfl rfl (by simp only [lowK, hiK]; omega) ?_)
        refine q_splitD 129 rfl (fun _ => ?_) (fun h => absurd rfl h)
        repeat (first
          | refine stepQF_ok tabOk (m := 400) rfl ?_
          | refine stepQF_ok tabOk (m := 16) rfl ?_
          | refine stepQF_ok tabOk (m := 3) rfl ?_
          | refine stepQF_ok tabOk (m := 0) rfl ?_
          | refine q_load rfl rfl tabOk rfl rfl (fun _ hf => cell_fr (by assumption) hf id) ?_
          | refine q_arith rfl rfl rfl rfl rfl (by simp only [lowK, hiK]; omega) ?_
          | refine q_rem rfl rfl rfl rfl (by omega) (by omega) ?_
          | refine q_quo rfl rfl rfl rfl (by omega) (by omega) (by simp only [hiK]; omega) ?_
          | refine q_index rfl rfl tabOk rfl rfl rfl (by omega) (by omega) ?_
          | refine q_convB rfl rfl tabOk rfl rfl rfl rfl ?_
          | refine q_conv rfl rfl tabOk rfl rfl rfl (by simp only [lowK, hiK]; omega) ?_)
        refine q_call rfl rfl rfl (fun w' hw' => (wrBytes z.pb vb _ w' (gB.fr0 hw')).mono fun u w'' h => ⟨h.1, h.2 ▸ hw'⟩) ?_
        repeat (first
          | refine stepQF_ok tabOk (m := 400) rfl ?_
          | refine stepQF_ok tabOk (m := 16) rfl ?_
          | refine stepQF_ok tabOk (m := 3) rfl ?_
          | refine stepQF_ok tabOk (m := 0) rfl ?_
          | refine q_load rfl rfl tabOk rfl rfl (fun _ hf => cell_fr (by assumption) hf id) ?_
          | refine q_arith rfl rfl rfl rfl rfl (by simp only [lowK, hiK]; omega) ?_
          | refine q_rem rfl rfl rfl rfl (by omega) (by omega) ?_
          | refine q_quo rfl rfl rfl rfl (by omega) (by omega) (by simp only [hiK]; omega) ?_
          | refine q_index rfl rfl tabOk rfl rfl rfl (by omega) (by omega) ?_
          | refine q_convB rfl rfl tabOk rfl rfl rfl rfl ?_
          | refine q_conv rfl rfl tabOk rfl rfl rfl (by simp only [lowK, hiK]; omega) ?_)
        refine q_splitD 135 rfl (fun _ => ?_) (fun h => absurd rfl h)
        repeat (first
          | refine stepQF_ok tabOk (m := 400) rfl ?_
          | refine stepQF_ok tabOk (m := 16) rfl ?_
          | refine stepQF_ok tabOk (m := 3) rfl ?_
          | refine stepQF_ok tabOk (m := 0) rfl ?_
          | refine q_load rfl rfl tabOk rfl rfl (fun _ hf => cell_fr (by assumption) hf id) ?_
          | refine q_arith rfl rfl rfl rfl rfl (by simp only [lowK, hiK]; omega) ?_
          | refine q_rem rfl rfl rfl rfl (by omega) (by omega) ?_
          | refine q_quo rfl rfl rfl rfl (by omega) (by omega) (by simp only [hiK]; omega) ?_
          | refine q_index rfl rfl tabOk rfl rfl rfl (by omega) (by omega) ?_
          | refine q_convB rfl rfl tabOk rfl rfl rfl rfl ?_
          | refine q_conv rfl rfl tabOk rfl rfl rfl (by simp only [lowK, hiK]; omega) ?_)
        refine q_call rfl rfl rfl (fun w' hw' => (rdAt z.px s _ w' (gX.fr0 hw')).mono fun u w'' h => ⟨h.1, hw'.tr h.2⟩) ?_
        repeat (first
          | refine stepQF_ok tabOk (m := 400) rfl ?_
          | refine stepQF_ok tabOk (m := 16) rfl ?_
          | refine stepQF_ok tabOk (m := 3) rfl ?_
          | refine stepQF_ok tabOk (m := 0) rfl ?_
          | refine q_load rfl rfl tabOk rfl rfl (fun _ hf => cell_fr (by assumption) hf id) ?_
          | refine q_arith rfl rfl rfl rfl rfl (by simp only [lowK, hiK]; omega) ?_
          | refine q_rem rfl rfl rfl rfl (by omega) (by omega) ?_
          | refine q_quo rfl rfl rfl rfl (by omega) (by omega) (by simp only [hiK]; omega) ?_
          | refine q_index rfl rfl tabOk rfl rfl rfl (by omega) (by omega) ?_
          | refine q_convB rfl rfl tabOk rfl rfl rfl rfl ?_
          | refine q_conv rfl rfl tabOk rfl rfl rfl (by simp only [lowK, hiK]; omega) ?_)
        refine q_splitD 142 rfl (fun _ => ?_) (fun h => absurd rfl h)
        repeat (first
          | refine stepQF_ok tabOk (m := 400) rfl ?_
          | refine stepQF_ok tabOk (m := 16) rfl ?_
          | refine stepQF_ok tabOk (m := 3) rfl ?_
          | refine stepQF_ok tabOk (m := 0) rfl ?_
          | refine q_load rfl rfl tabOk rfl rfl (fun _ hf => cell_fr (by assumption) hf id) ?_
          | refine q_arith rfl rfl rfl rfl rfl (by simp only [lowK, hiK]; omega) ?_
          | refine q_rem rfl rfl rfl rfl (by omega) (by omega) ?_
          | refine q_quo rfl rfl rfl rfl (by omega) (by omega) (by simp only [hiK]; omega) ?_
          | refine q_index rfl rfl tabOk rfl rfl rfl (by omega) (by omega) ?_
          | refine q_convB rfl rfl tabOk rfl rfl rfl rfl ?_
          | refine q_conv rfl rfl tabOk rfl rfl rfl (by simp only [lowK, hiK]; omega) ?_)
        refine q_call rfl rfl rfl (fun w' hw' => (rdAt z.py t _ w' (gY.fr0 hw')).mono fun u w'' h => ⟨h.1, hw'.tr h.2⟩) ?_
        repeat (first
          | refine stepQF_ok tabOk (m := 400) rfl ?_
          | refine stepQF_ok tabOk (m := 16) rfl ?_
          | refine stepQF_ok tabOk (m := 3) rfl ?_
          | refine stepQF_ok tabOk (m := 0) rfl ?_
          | refine q_load rfl rfl tabOk rfl rfl (fun _ hf => cell_fr (by assumption) hf id) ?_
          | refine q_arith rfl rfl rfl rfl rfl (by simp only [lowK, hiK]; omega) ?_
          | refine q_rem rfl rfl rfl rfl (by omega) (by omega) ?_
          | refine q_quo rfl rfl rfl rfl (by omega) (by omega) (by simp only [hiK]; omega) ?_
          | refine q_index rfl rfl tabOk rfl rfl rfl (by omega) (by omega) ?_
          | refine q_convB rfl rfl tabOk rfl rfl rfl rfl ?_
          | refine q_conv rfl rfl tabOk rfl rfl rfl (by simp only [lowK, hiK]; omega) ?_)
        refine q_end fun w5 hf5 => ?_
        clear c1 c2
        repeat (first
          | refine stepF_ok tabOk [] (m := 400) rfl ?_
          | refine stepF_ok tabOk [] (m := 16) rfl ?_
          | refine stepF_ok tabOk [] (m := 3) rfl ?_
          | refine stepF_ok tabOk [] (m := 0) rfl ?_
          | refine ev_load rfl rfl tabOk rfl rfl (by assumption) ?_
          | refine ev_loadB rfl rfl tabOk rfl rfl (by assumption) (by rfl) ?_
          | refine ev_loadAggB rfl rfl tabOk rfl rfl (by assumption) (by rfl) ?_
          | refine ev_arith rfl rfl rfl rfl rfl (by simp only [lowK, hiK]; omega) ?_
          | refine ev_rem rfl rfl rfl rfl (by omega) (by omega) ?_
          | refine ev_quo rfl rfl rfl rfl (by omega) (by omega) (by simp only [hiK]; omega) ?_
          | refine ev_index rfl rfl tabOk rfl rfl rfl (by omega) (by omega) ?_
          | refine ev_indexA rfl rfl tabOk rfl rfl rfl (by omega) (by omega) rfl ?_
          | refine ev_convB rfl rfl tabOk rfl rfl rfl rfl ?_
          | refine ev_conv rfl rfl tabOk rfl rfl rfl (by simp only [lowK, hiK]; omega) ?_)
        exact ret1 (.inr rfl) rfl rfl ⟨congrArg Value.bool (decide_eq_true rfl), gW.tr hf5⟩
  rintro _ w' ⟨rfl, hor⟩
  repeat (first
    | refine stepF_ok tabOk [] (m := 400) rfl ?_
    | refine stepF_ok tabOk [] (m := 16) rfl ?_
    | refine stepF_ok tabOk [] (m := 3) rfl ?_
    | refine stepF_ok tabOk [] (m := 0) rfl ?_
    | refine ev_load rfl rfl tabOk rfl rfl (by assumption) ?_
    | refine ev_loadB rfl rfl tabOk rfl rfl (by assumption) (by rfl) ?_
    | refine ev_loadAggB rfl rfl tabOk rfl rfl (by assumption) (by rfl) ?_
    | refine ev_arith rfl rfl rfl rfl rfl (by simp only [lowK, hiK]; omega) ?_
    | refine ev_rem rfl rfl rfl rfl (by omega) (by omega) ?_
    | refine ev_quo rfl rfl rfl rfl (by omega) (by omega) (by simp only [hiK]; omega) ?_
    | refine ev_index rfl rfl tabOk rfl rfl rfl (by omega) (by omega) ?_
    | refine ev_indexA rfl rfl tabOk rfl rfl rfl (by omega) (by omega) rfl ?_
    | refine ev_convB rfl rfl tabOk rfl rfl rfl rfl ?_
    | refine ev_conv rfl rfl tabOk rfl rfl rfl (by simp only [lowK, hiK]; omega) ?_)
  refine ev_join1 (α := Unit) (fun _ => [(3, .slice A1 l1.length c1), (4, .slice A2 l2.length c2), (5, .string (sOf s)), (6, .string (sOf t)), (7, .pointer (some ⟨z.pa, 0, none⟩)), (8, .pointer (some ⟨z.pb, 0, none⟩)), (9, .pointer (some ⟨z.px, 0, none⟩)), (10, .pointer (some ⟨z.py, 0, none⟩)), (11, .string (sOf (rawB (l1.take (k + 1))))), (12, .string (sOf (rawB (l2.take k)))), (13, .pointer (some ⟨z.qm, 0, none⟩)), (14, .pointer (some ⟨z.qn, 0, none⟩)), (15, .int .i64 k), (16, .bool true)]) (fun _ w' => TI z W w' (rawB (l1.take (k + 1))) (rawB (l2.take k)) s t (posA s (l1.take (k + 1))) (posA t (l2.take k)) (posA s (l1.take (k + 1))) (posA t (l2.take k))) ?_ ?_
  · refine ev_condD rfl (fun h1 => ?_) (fun h1 => ?_)
    · have hk1 : k < l1.length := by omega
      have hx : l1[k]? = some l1[k] := List.getElem?_eq_getElem hk1
      generalize l1[k] = x at hx
      have hpos := posA_le s (l1.take k)
      have hrl := rawB_len (l1.take k)
      have hrt := volB_take l1 k
      have hvx := volB_get hx
      have hvx2 : x.text.length ≤ x.vol := by unfold OpV.vol; omega
      obtain ⟨va, vb, gA, gB, gX, gY, gM, gN, gW, gS, ga, gb, gab⟩ := id hI
      obtain ⟨b0, o0, Ar, cr, hAe, hag, _, hok, _, hb0⟩ := hO1.at gW hx
      subst hAe
      have c4 : w'.cell? ⟨b0, o0 + (k : Int).toNat * 5 + 4, none⟩ = some (.string (sOf x.text)) := hag.at rfl
      repeat (first
        | refine stepF_ok tabOk [] (m := 400) rfl ?_
        | refine stepF_ok tabOk [] (m := 16) rfl ?_
        | refine stepF_ok tabOk [] (m := 3) rfl ?_
        | refine stepF_ok tabOk [] (m := 0) rfl ?_
        | refine ev_load rfl rfl tabOk rfl rfl (by assumption) ?_
        | refine ev_loadB rfl rfl tabOk rfl rfl (by assumption) (by rfl) ?_
        | refine ev_loadAggB rfl rfl tabOk rfl rfl (by assumption) (by rfl) ?_
        | refine ev_arith rfl rfl rfl rfl rfl (by simp only [lowK, hiK]; omega) ?_
        | refine ev_rem rfl rfl rfl rfl (by omega) (by omega) ?_
        | refine ev_quo rfl rfl rfl rfl (by omega) (by omega) (by simp only [hiK]; omega) ?_
        | refine ev_index rfl rfl tabOk rfl rfl rfl (by omega) (by omega) ?_
        | refine ev_indexA rfl rfl tabOk rfl rfl rfl (by omega) (by omega) rfl ?_
        | refine ev_convB rfl rfl tabOk rfl rfl rfl rfl ?_
        | refine ev_conv rfl rfl tabOk rfl rfl rfl (by simp only [lowK, hiK]; omega) ?_)
      refine ev_indexAddr rfl rfl tabOk rfl rfl rfl (by omega) (by omega) ?_
      repeat (first
        | refine stepF_ok tabOk [] (m := 400) rfl ?_
        | refine stepF_ok tabOk [] (m := 16) rfl ?_
        | refine stepF_ok tabOk [] (m := 3) rfl ?_
        | refine stepF_ok tabOk [] (m := 0) rfl ?_
        | refine ev_load rfl rfl tabOk rfl rfl (by assumption) ?_
        | refine ev_loadB rfl rfl tabOk rfl rfl (by assumption) (by rfl) ?_
        | refine ev_loadAggB rfl rfl tabOk rfl rfl (by assumption) (by rfl) ?_
        | refine ev_arith rfl rfl rfl rfl rfl (by simp only [lowK, hiK]; omega) ?_
        | refine ev_rem rfl rfl rfl rfl (by omega) (by omega) ?_
        | refine ev_quo rfl rfl rfl rfl (by omega) (by omega) (by simp only [hiK]; omega) ?_
        | refine ev_index rfl rfl tabOk rfl rfl rfl (by omega) (by omega) ?_
        | refine ev_indexA rfl rfl tabOk rfl rfl rfl (by omega) (by omega) rfl ?_
        | refine ev_convB rfl rfl tabOk rfl rfl rfl rfl ?_
        | refine ev_conv rfl rfl tabOk rfl rfl rfl (by simp only [lowK, hiK]; omega) ?_)
      refine ev_call rfl rfl rfl (wrRaw z.pa va _ x.text _ gA (by omega)) (fun r w1 hr => ?_)
      have hI1 := TI.a hz gA gB gX gY gM gN gW gS ga gb gab hr
      clear hr gA gB gX gY gM gN ga gb gab c4 hag hok
      obtain ⟨va, vb, gA, gB, gX, gY, gM, gN, gW, gS, ga, gb, gab⟩ := id hI1
      obtain ⟨b1, o1, Ar, cr, hAe, hag, _, hok, _, hb1⟩ := hO1.at gW hx
      simp only [Option.some.injEq, Addr.mk.injEq, and_true] at hAe
      obtain ⟨rfl, rfl⟩ := hAe
      have c4 : w1.cell? ⟨b0, o0 + (k : Int).toNat * 5 + 4, none⟩ = some (.string (sOf x.text)) := hag.at rfl
      repeat (first
        | refine stepF_ok tabOk [] (m := 400) rfl ?_
        | refine stepF_ok tabOk [] (m := 16) rfl ?_
        | refine stepF_ok tabOk [] (m := 3) rfl ?_
        | refine stepF_ok tabOk [] (m := 0) rfl ?_
        | refine ev_load rfl rfl tabOk rfl rfl (by assumption) ?_
        | refine ev_loadB rfl rfl tabOk rfl rfl (by assumption) (by rfl) ?_
        | refine ev_loadAggB rfl rfl tabOk rfl rfl (by assumption) (by rfl) ?_
        | refine ev_arith rfl rfl rfl rfl rfl (by simp only [lowK, hiK]; omega) ?_
        | refine ev_rem rfl rfl rfl rfl (by omega) (by omega) ?_
        | refine ev_quo rfl rfl rfl rfl (by omega) (by omega) (by simp only [hiK]; omega) ?_
        | refine ev_index rfl rfl tabOk rfl rfl rfl (by omega) (by omega) ?_
        | refine ev_indexA rfl rfl tabOk rfl rfl rfl (by omega) (by omega) rfl ?_
        | refine ev_convB rfl rfl tabOk rfl rfl rfl rfl ?_
        | refine ev_conv rfl rfl tabOk rfl rfl rfl (by simp only [lowK, hiK]; omega) ?_)
      refine ev_indexAddr rfl rfl tabOk rfl rfl rfl (by omega) (by omega) ?_
      repeat (first
        | refine stepF_ok tabOk [] (m := 400) rfl ?_
        | refine stepF_ok tabOk [] (m := 16) rfl ?_
        | refine stepF_ok tabOk [] (m := 3) rfl ?_
        | refine stepF_ok tabOk [] (m := 0) rfl ?_
        | refine ev_load rfl rfl tabOk rfl rfl (by assumption) ?_
        | refine ev_loadB rfl rfl tabOk rfl rfl (by assumption) (by rfl) ?_
        | refine ev_loadAggB rfl rfl tabOk rfl rfl (by assumption) (by rfl) ?_
        | refine ev_arith rfl rfl rfl rfl rfl (by simp only [lowK, hiK]; omega) ?_
        | refine ev_rem rfl rfl rfl rfl (by omega) (by omega) ?_
        | refine ev_quo rfl rfl rfl rfl (by omega) (by omega) (by simp only [hiK]; omega) ?_
        | refine ev_index rfl rfl tabOk rfl rfl rfl (by omega) (by omega) ?_
        | refine ev_indexA rfl rfl tabOk rfl rfl rfl (by omega) (by omega) rfl ?_
        | refine ev_convB rfl rfl tabOk rfl rfl rfl rfl ?_
        | refine ev_conv rfl rfl tabOk rfl rfl rfl (by simp only [lowK, hiK]; omega) ?_)
      refine ev_concat rfl rfl rfl rfl (by omega) ?_
      clear c4
      repeat (first
        | refine stepF_ok tabOk [] (m := 400) rfl ?_
        | refine stepF_ok tabOk [] (m := 16) rfl ?_
        | refine stepF_ok tabOk [] (m := 3) rfl ?_
        | refine stepF_ok tabOk [] (m := 0) rfl ?_
        | refine ev_load rfl rfl tabOk rfl rfl (by assumption) ?_
        | refine ev_loadB rfl rfl tabOk rfl rfl (by assumption) (by rfl) ?_
        | refine ev_loadAggB rfl rfl tabOk rfl rfl (by assumption) (by rfl) ?_
        | refine ev_arith rfl rfl rfl rfl rfl (by simp only [lowK, hiK]; omega) ?_
        | refine ev_rem rfl rfl rfl rfl (by omega) (by omega) ?_
        | refine ev_quo rfl rfl rfl rfl (by omega) (by omega) (by simp only [hiK]; omega) ?_
        | refine ev_index rfl rfl tabOk rfl rfl rfl (by omega) (by omega) ?_
        | refine ev_indexA rfl rfl tabOk rfl rfl rfl (by omega) (by omega) rfl ?_
        | refine ev_convB rfl rfl tabOk rfl rfl rfl rfl ?_
        | refine ev_conv rfl rfl tabOk rfl rfl rfl (by simp only [lowK, hiK]; omega) ?_)
      have hzz := hz
      unfold Six.ok at hzz
      have hag2 : ∀ w', Fr (fun c => c = z.px ∨ c = z.qm) w1 w' → Cs w' (some ⟨b0, o0 + (k : Int).toNat * 5, none⟩) [.int .i64 x.kind, .int .i64 x.n, .int .i64 x.bytes, .slice Ar x.row.length cr, .string (sOf x.text)] := fun w' hw' =>
        hag.fr hw' (fun a ha z' => by cases ha; have : b0 = z.px ∨ b0 = z.qm := z'; omega)
      refine mixC_in (fun w' => Fr (fun c => c = z.px ∨ c = z.qm) w1 w') mixed (fun w2 hf2 => ?_)
      have hf2' : Fr (fun c => c = z.px ∨ c = z.qm) w1 w2 := hf2.mono fun _ _ z' => z'.elim
      refine mix_run 400 tabOk rfl (by kernel_rfl) (by kernel_rfl) ?_
      refine m_indexAddr 4 rfl rfl rfl (by kernel_rfl) (by kernel_rfl) rfl rfl tabOk rfl rfl rfl (by omega) (by omega) ?_
      refine m_loadAgg 5 rfl rfl rfl (by kernel_rfl) (by kernel_rfl) rfl rfl tabOk rfl rfl rfl hag2 ?_
      have gX2 := gX.fr0 hf2; have gY2 := gY.fr0 hf2; have gM2 := gM.fr0 hf2; have gN2 := gN.fr0 hf2
      have hI2 := hI1.tr hf2
      refine mix1 rfl rfl ?_ hf2'
      refine ev_loadAggB rfl rfl tabOk rfl rfl gM2 rfl ?_
      refine mix_op ?_
      refine mix1 rfl rfl ?_ hf2'
      refine ev_call rfl rfl rfl (readC z.px s _ x Ar cr _ gX2 hpos (by omega) hok) (fun r w3 hr => ?_)
      obtain ⟨rfl, hR3, hf3⟩ := hr
      have hf13 := hf2'.trans hf3 (fun u hu z' => .inl z')
      have gM3 := gM2.fr hf3 (fun z' => by have : z.qm = z.px := z'; omega); have gN3 := gN2.fr hf3 (fun z' => by have : z.qn = z.px := z'; omega)
      have gY3 := gY2.fr hf3 (fun z' => by have : z.py = z.px := z'; omega)
      have hI3 : TI z W w3 (rawB (l1.take k) ++ x.text) (rawB (l2.take k)) s t (rdA x s (posA s (l1.take k))) (posA t (l2.take k)) (posA s (l1.take k)) (posA t (l2.take k)) := TI.set hz hI2 (q := z.px) (by omega) (by omega) (by omega) (by omega) hf3 hR3 gY3 gM3 gN3
      refine mix_op ?_
      refine mix_run 400 tabOk rfl (by kernel_rfl) (by kernel_rfl) ?_
      refine mix1 rfl rfl ?_ hf13
      refine ev_storeAgg tabOk rfl rfl rfl rfl rfl rfl gM3 rfl (fun w4 hQ4 hf4 => ?_)
      have hf14 := hf13.trans hf4 (fun u hu z' => .inr z')
      have hI4 : TI z W w4 (rawB (l1.take k) ++ x.text) (rawB (l2.take k)) s t (rdA x s (posA s (l1.take k))) (posA t (l2.take k)) (rdA x s (posA s (l1.take k))) (posA t (l2.take k)) := TI.set hz hI3 (q := z.qm) (by omega) (by omega) (by omega) (by omega) hf4 (hR3.fr hf4 (fun z' => by omega)) (gY3.fr hf4 (fun z' => by omega)) hQ4 (gN3.fr hf4 (fun z' => by omega))
      refine mix_op ?_
      refine mix_run 400 tabOk rfl (by kernel_rfl) (by kernel_rfl) ?_
      refine mix_out rfl ?_ hf14
      refine ev_out () ?_ ⟨rfl, rfl, rfl, rfl, rfl, rfl, rfl, rfl, by rw [rawB_take hx]; rfl, rfl, rfl, rfl, rfl, rfl, trivial⟩
      rw [rawB_take hx, posA_take hx]; exact hI4
    · repeat (first
        | refine stepF_ok tabOk [] (m := 400) rfl ?_
        | refine stepF_ok tabOk [] (m := 16) rfl ?_
        | refine stepF_ok tabOk [] (m := 3) rfl ?_
        | refine stepF_ok tabOk [] (m := 0) rfl ?_
        | refine ev_load rfl rfl tabOk rfl rfl (by assumption) ?_
        | refine ev_loadB rfl rfl tabOk rfl rfl (by assumption) (by rfl) ?_
        | refine ev_loadAggB rfl rfl tabOk rfl rfl (by assumption) (by rfl) ?_
        | refine ev_arith rfl rfl rfl rfl rfl (by simp only [lowK, hiK]; omega) ?_
        | refine ev_rem rfl rfl rfl rfl (by omega) (by omega) ?_
        | refine ev_quo rfl rfl rfl rfl (by omega) (by omega) (by simp only [hiK]; omega) ?_
        | refine ev_index rfl rfl tabOk rfl rfl rfl (by omega) (by omega) ?_
        | refine ev_indexA rfl rfl tabOk rfl rfl rfl (by omega) (by omega) rfl ?_
        | refine ev_convB rfl rfl tabOk rfl rfl rfl rfl ?_
        | refine ev_conv rfl rfl tabOk rfl rfl rfl (by simp only [lowK, hiK]; omega) ?_)
      have e := take_over (ops := l1) (k := k) (by omega)
      refine ev_out () ?_ ⟨rfl, rfl, rfl, rfl, rfl, rfl, rfl, rfl, by rw [e]; rfl, rfl, rfl, rfl, rfl, rfl, trivial⟩
      rw [e]; exact hI
  rintro _ w' hI
  repeat (first
    | refine stepF_ok tabOk [] (m := 400) rfl ?_
    | refine stepF_ok tabOk [] (m := 16) rfl ?_
    | refine stepF_ok tabOk [] (m := 3) rfl ?_
    | refine stepF_ok tabOk [] (m := 0) rfl ?_
    | refine ev_load rfl rfl tabOk rfl rfl (by assumption) ?_
    | refine ev_loadB rfl rfl tabOk rfl rfl (by assumption) (by rfl) ?_
    | refine ev_loadAggB rfl rfl tabOk rfl rfl (by assumption) (by rfl) ?_
    | refine ev_arith rfl rfl rfl rfl rfl (by simp only [lowK, hiK]; omega) ?_
    | refine ev_rem rfl rfl rfl rfl (by omega) (by omega) ?_
    | refine ev_quo rfl rfl rfl rfl (by omega) (by omega) (by simp only [hiK]; omega) ?_
    | refine ev_index rfl rfl tabOk rfl rfl rfl (by omega) (by omega) ?_
    | refine ev_indexA rfl rfl tabOk rfl rfl rfl (by omega) (by omega) rfl ?_
    | refine ev_convB rfl rfl tabOk rfl rfl rfl rfl ?_
    | refine ev_conv rfl rfl tabOk rfl rfl rfl (by simp only [lowK, hiK]; omega) ?_)
  refine ev_join1 (α := Unit) (fun _ => [(3, .slice A1 l1.length c1), (4, .slice A2 l2.length c2), (5, .string (sOf s)), (6, .string (sOf t)), (7, .pointer (some ⟨z.pa, 0, none⟩)), (8, .pointer (some ⟨z.pb, 0, none⟩)), (9, .pointer (some ⟨z.px, 0, none⟩)), (10, .pointer (some ⟨z.py, 0, none⟩)), (11, .string (sOf (rawB (l1.take (k + 1))))), (12, .string (sOf (rawB (l2.take (k + 1))))), (13, .pointer (some ⟨z.qm, 0, none⟩)), (14, .pointer (some ⟨z.qn, 0, none⟩)), (15, .int .i64 k), (16, .bool true)]) (fun _ w' => TI z W w' (rawB (l1.take (k + 1))) (rawB (l2.take (k + 1))) s t (posA s (l1.take (k + 1))) (posA t (l2.take (k + 1))) (posA s (l1.take (k + 1))) (posA t (l2.take (k + 1)))) ?_ ?_
  · refine ev_condD rfl (fun h1 => ?_) (fun h1 => ?_)
    · have hk1 : k < l2.length := by omega
      have hx : l2[k]? = some l2[k] := List.getElem?_eq_getElem hk1
      generalize l2[k] = x at hx
      have hpos := posA_le t (l2.take k)
      have hrl := rawB_len (l2.take k)
      have hrt := volB_take l2 k
      have hvx := volB_get hx
      have hvx2 : x.text.length ≤ x.vol := by unfold OpV.vol; omega
      obtain ⟨va, vb, gA, gB, gX, gY, gM, gN, gW, gS, ga, gb, gab⟩ := id hI
      obtain ⟨b0, o0, Ar, cr, hAe, hag, _, hok, _, hb0⟩ := hO2.at gW hx
      subst hAe
      have c4 : w'.cell? ⟨b0, o0 + (k : Int).toNat * 5 + 4, none⟩ = some (.string (sOf x.text)) := hag.at rfl
      repeat (first
        | refine stepF_ok tabOk [] (m := 400) rfl ?_
        | refine stepF_ok tabOk [] (m := 16) rfl ?_
        | refine stepF_ok tabOk [] (m := 3) rfl ?_
        | refine stepF_ok tabOk [] (m := 0) rfl ?_
        | refine ev_load rfl rfl tabOk rfl rfl (by assumption) ?_
        | refine ev_loadB rfl rfl tabOk rfl rfl (by assumption) (by rfl) ?_
        | refine ev_loadAggB rfl rfl tabOk rfl rfl (by assumption) (by rfl) ?_
        | refine ev_arith rfl rfl rfl rfl rfl (by simp only [lowK, hiK]; omega) ?_
        | refine ev_rem rfl rfl rfl rfl (by omega) (by omega) ?_
        | refine ev_quo rfl rfl rfl rfl (by omega) (by omega) (by simp only [hiK]; omega) ?_
        | refine ev_index rfl rfl tabOk rfl rfl rfl (by omega) (by omega) ?_
        | refine ev_indexA rfl rfl tabOk rfl rfl rfl (by omega) (by omega) rfl ?_
        | refine ev_convB rfl rfl tabOk rfl rfl rfl rfl ?_
        | refine ev_conv rfl rfl tabOk rfl rfl rfl (by simp only [lowK, hiK]; omega) ?_)
      refine ev_indexAddr rfl rfl tabOk rfl rfl rfl (by omega) (by omega) ?_
      repeat (first
        | refine stepF_ok tabOk [] (m := 400) rfl ?_
        | refine stepF_ok tabOk [] (m := 16) rfl ?_
        | refine stepF_ok tabOk [] (m := 3) rfl ?_
        | refine stepF_ok tabOk [] (m := 0) rfl ?_
        | refine ev_load rfl rfl tabOk rfl rfl (by assumption) ?_
        | refine ev_loadB rfl rfl tabOk rfl rfl (by assumption) (by rfl) ?_
        | refine ev_loadAggB rfl rfl tabOk rfl rfl (by assumption) (by rfl) ?_
        | refine ev_arith rfl rfl rfl rfl rfl (by simp only [lowK, hiK]; omega) ?_
        | refine ev_rem rfl rfl rfl rfl (by omega) (by omega) ?_
        | refine ev_quo rfl rfl rfl rfl (by omega) (by omega) (by simp only [hiK]; omega) ?_
        | refine ev_index rfl rfl tabOk rfl rfl rfl (by omega) (by omega) ?_
        | refine ev_indexA rfl rfl tabOk rfl rfl rfl (by omega) (by omega) rfl ?_
        | refine ev_convB rfl rfl tabOk rfl rfl rfl rfl ?_
        | refine ev_conv rfl rfl tabOk rfl rfl rfl (by simp only [lowK, hiK]; omega) ?_)
      refine ev_call rfl rfl rfl (wrRaw z.pb vb _ x.text _ gB (by omega)) (fun r w1 hr => ?_)
      have hI1 := TI.b hz gA gB gX gY gM gN gW gS ga gb gab hr
      clear hr gA gB gX gY gM gN ga gb gab c4 hag hok
      obtain ⟨va, vb, gA, gB, gX, gY, gM, gN, gW, gS, ga, gb, gab⟩ := id hI1
      obtain ⟨b1, o1, Ar, cr, hAe, hag, _, hok, _, hb1⟩ := hO2.at gW hx
      simp only [Option.some.injEq, Addr.mk.injEq, and_true] at hAe
      obtain ⟨rfl, rfl⟩ := hAe
      have c4 : w1.cell? ⟨b0, o0 + (k : Int).toNat * 5 + 4, none⟩ = some (.string (sOf x.text)) := hag.at rfl
      repeat (first
        | refine stepF_ok tabOk [] (m := 400) rfl ?_
        | refine stepF_ok tabOk [] (m := 16) rfl ?_
        | refine stepF_ok tabOk [] (m := 3) rfl ?_
        | refine stepF_ok tabOk [] (m := 0) rfl ?_
        | refine ev_load rfl rfl tabOk rfl rfl (by assumption) ?_
        | refine ev_loadB rfl rfl tabOk rfl rfl (by assumption) (by rfl) ?_
        | refine ev_loadAggB rfl rfl tabOk rfl rfl (by assumption) (by rfl) ?_
        | refine ev_arith rfl rfl rfl rfl rfl (by simp only [lowK, hiK]; omega) ?_
        | refine ev_rem rfl rfl rfl rfl (by omega) (by omega) ?_
        | refine ev_quo rfl rfl rfl rfl (by omega) (by omega) (by simp only [hiK]; omega) ?_
        | refine ev_index rfl rfl tabOk rfl rfl rfl (by omega) (by omega) ?_
        | refine ev_indexA rfl rfl tabOk rfl rfl rfl (by omega) (by omega) rfl ?_
        | refine ev_convB rfl rfl tabOk rfl rfl rfl rfl ?_
        | refine ev_conv rfl rfl tabOk rfl rfl rfl (by simp only [lowK, hiK]; omega) ?_)
      refine ev_indexAddr rfl rfl tabOk rfl rfl rfl (by omega) (by omega) ?_
      repeat (first
        | refine stepF_ok tabOk [] (m := 400) rfl ?_
        | refine stepF_ok tabOk [] (m := 16) rfl ?_
        | refine stepF_ok tabOk [] (m := 3) rfl ?_
        | refine stepF_ok tabOk [] (m := 0) rfl ?_
        | refine ev_load rfl rfl tabOk rfl rfl (by assumption) ?_
        | refine ev_loadB rfl rfl tabOk rfl rfl (by assumption) (by rfl) ?_
        | refine ev_loadAggB rfl rfl tabOk rfl rfl (by assumption) (by rfl) ?_
        | refine ev_arith rfl rfl rfl rfl rfl (by simp only [lowK, hiK]; omega) ?_
        | refine ev_rem rfl rfl rfl rfl (by omega) (by omega) ?_
        | refine ev_quo rfl rfl rfl rfl (by omega) (by omega) (by simp only [hiK]; omega) ?_
        | refine ev_index rfl rfl tabOk rfl rfl rfl (by omega) (by omega) ?_
        | refine ev_indexA rfl rfl tabOk rfl rfl rfl (by omega) (by omega) rfl ?_
        | refine ev_convB rfl rfl tabOk rfl rfl rfl rfl ?_
        | refine ev_conv rfl rfl tabOk rfl rfl rfl (by simp only [lowK, hiK]; omega) ?_)
      refine ev_concat rfl rfl rfl rfl (by omega) ?_
      clear c4
      repeat (first
        | refine stepF_ok tabOk [] (m := 400) rfl ?_
        | refine stepF_ok tabOk [] (m := 16) rfl ?_
        | refine stepF_ok tabOk [] (m := 3) rfl ?_
        | refine stepF_ok tabOk [] (m := 0) rfl ?_
        | refine ev_load rfl rfl tabOk rfl rfl (by assumption) ?_
        | refine ev_loadB rfl rfl tabOk rfl rfl (by assumption) (by rfl) ?_
        | refine ev_loadAggB rfl rfl tabOk rfl rfl (by assumption) (by rfl) ?_
        | refine ev_arith rfl rfl rfl rfl rfl (by simp only [lowK, hiK]; omega) ?_
        | refine ev_rem rfl rfl rfl rfl (by omega) (by omega) ?_
        | refine ev_quo rfl rfl rfl rfl (by omega) (by omega) (by simp only [hiK]; omega) ?_
        | refine ev_index rfl rfl tabOk rfl rfl rfl (by omega) (by omega) ?_
        | refine ev_indexA rfl rfl tabOk rfl rfl rfl (by omega) (by omega) rfl ?_
        | refine ev_convB rfl rfl tabOk rfl rfl rfl rfl ?_
        | refine ev_conv rfl rfl tabOk rfl rfl rfl (by simp only [lowK, hiK]; omega) ?_)
      have hzz := hz
      unfold Six.ok at hzz
      have hag2 : ∀ w', Fr (fun c => c = z.py ∨ c = z.qn) w1 w' → Cs w' (some ⟨b0, o0 + (k : Int).toNat * 5, none⟩) [.int .i64 x.kind, .int .i64 x.n, .int .i64 x.bytes, .slice Ar x.row.length cr, .string (sOf x.text)] := fun w' hw' =>
        hag.fr hw' (fun a ha z' => by cases ha; have : b0 = z.py ∨ b0 = z.qn := z'; omega)
      refine mixC_in (fun w' => Fr (fun c => c = z.py ∨ c = z.qn) w1 w') mixed (fun w2 hf2 => ?_)
      have hf2' : Fr (fun c => c = z.py ∨ c = z.qn) w1 w2 := hf2.mono fun _ _ z' => z'.elim
      refine mix_run 400 tabOk rfl (by kernel_rfl) (by kernel_rfl) ?_
      refine m_indexAddr 4 rfl rfl rfl (by kernel_rfl) (by kernel_rfl) rfl rfl tabOk rfl rfl rfl (by omega) (by omega) ?_
      refine m_loadAgg 5 rfl rfl rfl (by kernel_rfl) (by kernel_rfl) rfl rfl tabOk rfl rfl rfl hag2 ?_
      have gX2 := gX.fr0 hf2; have gY2 := gY.fr0 hf2; have gM2 := gM.fr0 hf2; have gN2 := gN.fr0 hf2
      have hI2 := hI1.tr hf2
      refine mix1 rfl rfl ?_ hf2'
      refine ev_loadAggB rfl rfl tabOk rfl rfl gN2 rfl ?_
      refine mix_op ?_
      refine mix1 rfl rfl ?_ hf2'
      refine ev_call rfl rfl rfl (readC z.py t _ x Ar cr _ gY2 hpos (by omega) hok) (fun r w3 hr => ?_)
      obtain ⟨rfl, hR3, hf3⟩ := hr
      have hf13 := hf2'.trans hf3 (fun u hu z' => .inl z')
      have gM3 := gM2.fr hf3 (fun z' => by have : z.qm = z.py := z'; omega); have gN3 := gN2.fr hf3 (fun z' => by have : z.qn = z.py := z'; omega)
      have gX3 := gX2.fr hf3 (fun z' => by have : z.px = z.py := z'; omega)
      have hI3 : TI z W w3 (rawB (l1.take (k + 1))) (rawB (l2.take k) ++ x.text) s t (posA s (l1.take (k + 1))) (rdA x t (posA t (l2.take k))) (posA s (l1.take (k + 1))) (posA t (l2.take k)) := TI.set hz hI2 (q := z.py) (by omega) (by omega) (by omega) (by omega) hf3 gX3 hR3 gM3 gN3
      refine mix_op ?_
      refine mix_run 400 tabOk rfl (by kernel_rfl) (by kernel_rfl) ?_
      refine mix1 rfl rfl ?_ hf13
      refine ev_storeAgg tabOk rfl rfl rfl rfl rfl rfl gN3 rfl (fun w4 hQ4 hf4 => ?_)
      have hf14 := hf13.trans hf4 (fun u hu z' => .inr z')
      have hI4 : TI z W w4 (rawB (l1.take (k + 1))) (rawB (l2.take k) ++ x.text) s t (posA s (l1.take (k + 1))) (rdA x t (posA t (l2.take k))) (posA s (l1.take (k + 1))) (rdA x t (posA t (l2.take k))) := TI.set hz hI3 (q := z.qn) (by omega) (by omega) (by omega) (by omega) hf4 (gX3.fr hf4 (fun z' => by omega)) (hR3.fr hf4 (fun z' => by omega)) (gM3.fr hf4 (fun z' => by omega)) hQ4
      refine mix_op ?_
      refine mix_run 400 tabOk rfl (by kernel_rfl) (by kernel_rfl) ?_
      refine mix_out rfl ?_ hf14
      refine ev_out () ?_ ⟨rfl, rfl, rfl, rfl, rfl, rfl, rfl, rfl, rfl, by rw [rawB_take hx]; rfl, rfl, rfl, rfl, rfl, trivial⟩
      rw [rawB_take hx, posA_take hx]; exact hI4
    · repeat (first
        | refine stepF_ok tabOk [] (m := 400) rfl ?_
        | refine stepF_ok tabOk [] (m := 16) rfl ?_
        | refine stepF_ok tabOk [] (m := 3) rfl ?_
        | refine stepF_ok tabOk [] (m := 0) rfl ?_
        | refine ev_load rfl rfl tabOk rfl rfl (by assumption) ?_
        | refine ev_loadB rfl rfl tabOk rfl rfl (by assumption) (by rfl) ?_
        | refine ev_loadAggB rfl rfl tabOk rfl rfl (by assumption) (by rfl) ?_
        | refine ev_arith rfl rfl rfl rfl rfl (by simp only [lowK, hiK]; omega) ?_
        | refine ev_rem rfl rfl rfl rfl (by omega) (by omega) ?_
        | refine ev_quo rfl rfl rfl rfl (by omega) (by omega) (by simp only [hiK]; omega) ?_
        | refine ev_index rfl rfl tabOk rfl rfl rfl (by omega) (by omega) ?_
        | refine ev_indexA rfl rfl tabOk rfl rfl rfl (by omega) (by omega) rfl ?_
        | refine ev_convB rfl rfl tabOk rfl rfl rfl rfl ?_
        | refine ev_conv rfl rfl tabOk rfl rfl rfl (by simp only [lowK, hiK]; omega) ?_)
      have e := take_over (ops := l2) (k := k) (by omega)
      refine ev_out () ?_ ⟨rfl, rfl, rfl, rfl, rfl, rfl, rfl, rfl, rfl, by rw [e]; rfl, rfl, rfl, rfl, rfl, trivial⟩
      rw [e]; exact hI
  rintro _ w' hI
  repeat (first
    | refine stepF_ok tabOk [] (m := 400) rfl ?_
    | refine stepF_ok tabOk [] (m := 16) rfl ?_
    | refine stepF_ok tabOk [] (m := 3) rfl ?_
    | refine stepF_ok tabOk [] (m := 0) rfl ?_
    | refine ev_load rfl rfl tabOk rfl rfl (by assumption) ?_
    | refine ev_loadB rfl rfl tabOk rfl rfl (by assumption) (by rfl) ?_
    | refine ev_loadAggB rfl rfl tabOk rfl rfl (by assumption) (by rfl) ?_
    | refine ev_arith rfl rfl rfl rfl rfl (by simp only [lowK, hiK]; omega) ?_
    | refine ev_rem rfl rfl rfl rfl (by omega) (by omega) ?_
    | refine ev_quo rfl rfl rfl rfl (by omega) (by omega) (by simp only [hiK]; omega) ?_
    | refine ev_index rfl rfl tabOk rfl rfl rfl (by omega) (by omega) ?_
    | refine ev_indexA rfl rfl tabOk rfl rfl rfl (by omega) (by omega) rfl ?_
    | refine ev_convB rfl rfl tabOk rfl rfl rfl rfl ?_
    | refine ev_conv rfl rfl tabOk rfl rfl rfl (by simp only [lowK, hiK]; omega) ?_)
  exact ev_next (k + 1) (by omega) ⟨by omega, hI⟩ ⟨rfl, rfl, rfl, rfl, rfl, rfl, rfl, rfl, rfl, rfl, rfl, rfl, rfl, trivial⟩
end Go.Wk.Ytihjpjpellagiaa
