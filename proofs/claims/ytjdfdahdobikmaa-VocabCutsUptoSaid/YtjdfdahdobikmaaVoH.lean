/-
  The walks of chapter 13: the document's Encode.
-/
import Derived.Test.YtjdfdahdobikmaaVoG
set_option linter.unusedVariables false
namespace Go.Wk.Ytjdfdahdobikmaa
open Go Go.Wk Go.Proofs

theorem OI.app {w : World} {a : Value} {l m : List Int} {n : Nat} (h : Own w 3 1 a n (l.map i64 ++ m.map i64)) (hn : n = l.length + m.length) : OI w a (l ++ m) := by
  unfold OI
  rw [List.map_append, List.length_append, ← hn]; exact h
/-- what has been found of a byte among the first k tokens -/
def fd (v : VV) (b : UInt8) (k : Nat) : Int := if v.byte b < k then (v.byte b : Int) else -1

set_option maxHeartbeats 4000000 in
theorem refEncode (A : Option Addr) (c : Nat) (B : Option Addr) (d : Nat) (v : VV) (s : List UInt8) (w : World) (hV : Vo w A B v) (hS : VS v) (hs : s.length ≤ 5000000) :
    CallsF Try.prog 18 [vv A c B d v, sv s] w fun r w' => (∃ a, r = encR v s a ∧ OI w' a (v.enc s).1 ∧ ∀ g, a.ownBlock = some g → w.heap.size ≤ g) ∧ Fr no w w' := by
  have hn := hS.merges
  have hnt := hS.texts
  refine callsF Try.func18 rfl rfl (by decide) rfl ?_
  refine stepF_ok tabOk [] (m := 3) rfl ?_
  refine ev_box rfl rfl rfl (fun p wb hp hB hfb => ?_)
  have hB : Blk wb p [.slice A v.texts.length c, .slice B v.merges.length d] 28 := hB
  have hzb := hfb.size
  repeat (first
    | refine stepF_ok tabOk [] (m := 400) rfl ?_
    | refine stepF_ok tabOk [] (m := 16) rfl ?_
    | refine stepF_ok tabOk [] (m := 3) rfl ?_
    | refine stepF_ok tabOk [] (m := 0) rfl ?_
    | refine ev_load rfl rfl tabOk rfl rfl (by assumption) ?_
    | refine ev_loadB rfl rfl tabOk rfl rfl (by assumption) (by rfl) ?_
    | refine ev_loadAggB rfl rfl tabOk rfl rfl (by assumption) (by rfl) ?_
    | refine ev_arith rfl rfl rfl rfl rfl (by simp only [lowK, hiK]; omega) ?_
    | refine ev_rem rfl rfl rfl rfl (by omega) (by omega) ?_
    | refine ev_quo rfl rfl rfl rfl (by omega) (by omega) (by simp only [hiK]; omega) ?_
    | refine ev_index rfl rfl tabOk rfl rfl rfl (by omega) (by omega) ?_
    | refine ev_indexA rfl rfl tabOk rfl rfl rfl (by omega) (by omega) rfl ?_
    | refine ev_convB rfl rfl tabOk rfl rfl rfl rfl ?_
    | refine ev_conv rfl rfl tabOk rfl rfl rfl (by simp only [lowK, hiK]; omega) ?_)
  refine ev_call rfl rfl rfl (refCheck A c B d v _ (hV.fr0 hfb) hS) (fun r w1 hr => ?_)
  obtain ⟨rfl, hf1⟩ := hr
  have hB1 := hB.fr0 hf1
  have hf01 := hfb.tr hf1
  clear hB hfb hf1
  repeat (first
    | refine stepF_ok tabOk [] (m := 400) rfl ?_
    | refine stepF_ok tabOk [] (m := 16) rfl ?_
    | refine stepF_ok tabOk [] (m := 3) rfl ?_
    | refine stepF_ok tabOk [] (m := 0) rfl ?_
    | refine ev_load rfl rfl tabOk rfl rfl (by assumption) ?_
    | refine ev_loadB rfl rfl tabOk rfl rfl (by assumption) (by rfl) ?_
    | refine ev_loadAggB rfl rfl tabOk rfl rfl (by assumption) (by rfl) ?_
    | refine ev_arith rfl rfl rfl rfl rfl (by simp only [lowK, hiK]; omega) ?_
    | refine ev_rem rfl rfl rfl rfl (by omega) (by omega) ?_
    | refine ev_quo rfl rfl rfl rfl (by omega) (by omega) (by simp only [hiK]; omega) ?_
    | refine ev_index rfl rfl tabOk rfl rfl rfl (by omega) (by omega) ?_
    | refine ev_indexA rfl rfl tabOk rfl rfl rfl (by omega) (by omega) rfl ?_
    | refine ev_convB rfl rfl tabOk rfl rfl rfl rfl ?_
    | refine ev_conv rfl rfl tabOk rfl rfl rfl (by simp only [lowK, hiK]; omega) ?_)
  refine ev_condD rfl (fun h0 => ?_) (fun h0 => ?_)
  · have h0 : v.chk.2 ≠ 0 := by omega
    repeat (first
      | refine stepF_ok tabOk [] (m := 400) rfl ?_
      | refine stepF_ok tabOk [] (m := 16) rfl ?_
      | refine stepF_ok tabOk [] (m := 3) rfl ?_
      | refine stepF_ok tabOk [] (m := 0) rfl ?_
      | refine ev_load rfl rfl tabOk rfl rfl (by assumption) ?_
      | refine ev_loadB rfl rfl tabOk rfl rfl (by assumption) (by rfl) ?_
      | refine ev_loadAggB rfl rfl tabOk rfl rfl (by assumption) (by rfl) ?_
      | refine ev_arith rfl rfl rfl rfl rfl (by simp only [lowK, hiK]; omega) ?_
      | refine ev_rem rfl rfl rfl rfl (by omega) (by omega) ?_
      | refine ev_quo rfl rfl rfl rfl (by omega) (by omega) (by simp only [hiK]; omega) ?_
      | refine ev_index rfl rfl tabOk rfl rfl rfl (by omega) (by omega) ?_
      | refine ev_indexA rfl rfl tabOk rfl rfl rfl (by omega) (by omega) rfl ?_
      | refine ev_convB rfl rfl tabOk rfl rfl rfl rfl ?_
      | refine ev_conv rfl rfl tabOk rfl rfl rfl (by simp only [lowK, hiK]; omega) ?_)
    refine ev_buildSlice tabOk rfl rfl rfl inf3 rfl rfl rfl (by simp) rfl (fun q w2 hq hb2 hf2 => ?_)
    have ho2 := own_of_blk (m := 0) (sz := 1) hb2 rfl (by omega)
    repeat (first
      | refine stepF_ok tabOk [] (m := 400) rfl ?_
      | refine stepF_ok tabOk [] (m := 16) rfl ?_
      | refine stepF_ok tabOk [] (m := 3) rfl ?_
      | refine stepF_ok tabOk [] (m := 0) rfl ?_
      | refine ev_load rfl rfl tabOk rfl rfl (by assumption) ?_
      | refine ev_loadB rfl rfl tabOk rfl rfl (by assumption) (by rfl) ?_
      | refine ev_loadAggB rfl rfl tabOk rfl rfl (by assumption) (by rfl) ?_
      | refine ev_arith rfl rfl rfl rfl rfl (by simp only [lowK, hiK]; omega) ?_
      | refine ev_rem rfl rfl rfl rfl (by omega) (by omega) ?_
      | refine ev_quo rfl rfl rfl rfl (by omega) (by omega) (by simp only [hiK]; omega) ?_
      | refine ev_index rfl rfl tabOk rfl rfl rfl (by omega) (by omega) ?_
      | refine ev_indexA rfl rfl tabOk rfl rfl rfl (by omega) (by omega) rfl ?_
      | refine ev_convB rfl rfl tabOk rfl rfl rfl rfl ?_
      | refine ev_conv rfl rfl tabOk rfl rfl rfl (by simp only [lowK, hiK]; omega) ?_)
    refine retG tabOk (.inr rfl) rfl [.slice (some ⟨q, 0, none⟩) 0 0, i64 v.chk.1, i64 v.chk.2] ⟨rfl, rfl, rfl, trivial⟩ ⟨⟨.slice (some ⟨q, 0, none⟩) 0 0, by unfold encR; rw [enc_bad h0]; rfl, by rw [enc_bad h0]; exact ho2, fun g hg => ?_⟩, hf01.tr hf2⟩
    simp only [Value.ownBlock, Option.some.injEq] at hg
    have := hf01.size; omega
  have h0 : v.chk.2 = 0 := by omega
  have hok := chk_ok h0
  have hz1 := hf01.size
  have hpl := hB1.lt
  repeat (first
    | refine stepF_ok tabOk [] (m := 400) rfl ?_
    | refine stepF_ok tabOk [] (m := 16) rfl ?_
    | refine stepF_ok tabOk [] (m := 3) rfl ?_
    | refine stepF_ok tabOk [] (m := 0) rfl ?_
    | refine ev_load rfl rfl tabOk rfl rfl (by assumption) ?_
    | refine ev_loadB rfl rfl tabOk rfl rfl (by assumption) (by rfl) ?_
    | refine ev_loadAggB rfl rfl tabOk rfl rfl (by assumption) (by rfl) ?_
    | refine ev_arith rfl rfl rfl rfl rfl (by simp only [lowK, hiK]; omega) ?_
    | refine ev_rem rfl rfl rfl rfl (by omega) (by omega) ?_
    | refine ev_quo rfl rfl rfl rfl (by omega) (by omega) (by simp only [hiK]; omega) ?_
    | refine ev_index rfl rfl tabOk rfl rfl rfl (by omega) (by omega) ?_
    | refine ev_indexA rfl rfl tabOk rfl rfl rfl (by omega) (by omega) rfl ?_
    | refine ev_convB rfl rfl tabOk rfl rfl rfl rfl ?_
    | refine ev_conv rfl rfl tabOk rfl rfl rfl (by simp only [lowK, hiK]; omega) ?_)
  refine ev_buildSlice tabOk rfl rfl rfl inf3 rfl rfl rfl (by simp) rfl (fun q w2 hq hb2 hf2 => ?_)
  have ho2 := own_of_blk (m := 0) (sz := 1) hb2 rfl (by omega)
  have hB2 := hB1.fr0 hf2
  have hf02 := hf01.tr hf2
  clear hB1 hf01 hb2 hf2
  repeat (first
    | refine stepF_ok tabOk [] (m := 400) rfl ?_
    | refine stepF_ok tabOk [] (m := 16) rfl ?_
    | refine stepF_ok tabOk [] (m := 3) rfl ?_
    | refine stepF_ok tabOk [] (m := 0) rfl ?_
    | refine ev_load rfl rfl tabOk rfl rfl (by assumption) ?_
    | refine ev_loadB rfl rfl tabOk rfl rfl (by assumption) (by rfl) ?_
    | refine ev_loadAggB rfl rfl tabOk rfl rfl (by assumption) (by rfl) ?_
    | refine ev_arith rfl rfl rfl rfl rfl (by simp only [lowK, hiK]; omega) ?_
    | refine ev_rem rfl rfl rfl rfl (by omega) (by omega) ?_
    | refine ev_quo rfl rfl rfl rfl (by omega) (by omega) (by simp only [hiK]; omega) ?_
    | refine ev_index rfl rfl tabOk rfl rfl rfl (by omega) (by omega) ?_
    | refine ev_indexA rfl rfl tabOk rfl rfl rfl (by omega) (by omega) rfl ?_
    | refine ev_convB rfl rfl tabOk rfl rfl rfl rfl ?_
    | refine ev_conv rfl rfl tabOk rfl rfl rfl (by simp only [lowK, hiK]; omega) ?_)
  refine ev_loop (α := Nat × Value) (fun y => [(1, sv s), (2, .pointer (some ⟨p, 0, none⟩)), (9, y.2), (10, i64 y.1)])
    (fun y w' => y.1 ≤ s.length ∧ (∀ j, j < y.1 → v.byte (s.getD j 0) < v.texts.length) ∧ Fr no w w' ∧ Blk w' p [.slice A v.texts.length c, .slice B v.merges.length d] 28 ∧ OI w' y.2 (v.bytes (s.take y.1)) ∧ (∀ g, y.2.ownBlock = some g → p < g)) (fun y => s.length - y.1) (0, .slice (some ⟨q, 0, none⟩) 0 0) ⟨rfl, rfl, rfl, rfl, trivial⟩
    ⟨Nat.zero_le _, fun j h => by omega, hf02, hB2, ho2, fun g hg => by simp only [Value.ownBlock, Option.some.injEq] at hg; omega⟩ ?_
  clear hB2 hf02 ho2
  rintro ⟨k, a⟩ w3 ⟨hk, hall, hf, hB, hO, hg⟩
  simp only at hk hall hO hg
  have hbl : (v.bytes (s.take k)).length = k := by unfold VV.bytes; rw [List.length_map, List.length_take]; omega
  repeat (first
    | refine stepF_ok tabOk [] (m := 400) rfl ?_
    | refine stepF_ok tabOk [] (m := 16) rfl ?_
    | refine stepF_ok tabOk [] (m := 3) rfl ?_
    | refine stepF_ok tabOk [] (m := 0) rfl ?_
    | refine ev_load rfl rfl tabOk rfl rfl (by assumption) ?_
    | refine ev_loadB rfl rfl tabOk rfl rfl (by assumption) (by rfl) ?_
    | refine ev_loadAggB rfl rfl tabOk rfl rfl (by assumption) (by rfl) ?_
    | refine ev_arith rfl rfl rfl rfl rfl (by simp only [lowK, hiK]; omega) ?_
    | refine ev_rem rfl rfl rfl rfl (by omega) (by omega) ?_
    | refine ev_quo rfl rfl rfl rfl (by omega) (by omega) (by simp only [hiK]; omega) ?_
    | refine ev_index rfl rfl tabOk rfl rfl rfl (by omega) (by omega) ?_
    | refine ev_indexA rfl rfl tabOk rfl rfl rfl (by omega) (by omega) rfl ?_
    | refine ev_convB rfl rfl tabOk rfl rfl rfl rfl ?_
    | refine ev_conv rfl rfl tabOk rfl rfl rfl (by simp only [lowK, hiK]; omega) ?_)
  refine ev_condD rfl (fun hlt => ?_) (fun hlt => ?_)
  · simp only at hlt
    have hk1 : k < s.length := by omega
    obtain ⟨b, hb⟩ : ∃ b, b = s.getD k 0 := ⟨_, rfl⟩
    have hbd := byte_drop hk1
    rw [← hb] at hbd
    repeat (first
      | refine stepF_ok tabOk [] (m := 400) rfl ?_
      | refine stepF_ok tabOk [] (m := 16) rfl ?_
      | refine stepF_ok tabOk [] (m := 3) rfl ?_
      | refine stepF_ok tabOk [] (m := 0) rfl ?_
      | refine ev_load rfl rfl tabOk rfl rfl (by assumption) ?_
      | refine ev_loadB rfl rfl tabOk rfl rfl (by assumption) (by rfl) ?_
      | refine ev_loadAggB rfl rfl tabOk rfl rfl (by assumption) (by rfl) ?_
      | refine ev_arith rfl rfl rfl rfl rfl (by simp only [lowK, hiK]; omega) ?_
      | refine ev_rem rfl rfl rfl rfl (by omega) (by omega) ?_
      | refine ev_quo rfl rfl rfl rfl (by omega) (by omega) (by simp only [hiK]; omega) ?_
      | refine ev_index rfl rfl tabOk rfl rfl rfl (by omega) (by omega) ?_
      | refine ev_indexA rfl rfl tabOk rfl rfl rfl (by omega) (by omega) rfl ?_
      | refine ev_convB rfl rfl tabOk rfl rfl rfl rfl ?_
      | refine ev_conv rfl rfl tabOk rfl rfl rfl (by simp only [lowK, hiK]; omega) ?_)
    refine ev_loop (α := Nat) (fun i => [(1, sv s), (2, .pointer (some ⟨p, 0, none⟩)), (9, a), (10, i64 k), (11, i64 (fd v b i)), (12, i64 i)])
      (fun i w' => i ≤ v.texts.length ∧ Fr no w w' ∧ Blk w' p [.slice A v.texts.length c, .slice B v.merges.length d] 28 ∧ OI w' a (v.bytes (s.take k))) (fun i => v.texts.length - i) 0 ⟨rfl, rfl, rfl, rfl, rfl, rfl, trivial⟩ ⟨Nat.zero_le _, hf, hB, hO⟩ ?_
    clear hf hB hO
    rintro i w4 ⟨hi, hf, hB, hO⟩
    repeat (first
      | refine stepF_ok tabOk [] (m := 400) rfl ?_
      | refine stepF_ok tabOk [] (m := 16) rfl ?_
      | refine stepF_ok tabOk [] (m := 3) rfl ?_
      | refine stepF_ok tabOk [] (m := 0) rfl ?_
      | refine ev_load rfl rfl tabOk rfl rfl (by assumption) ?_
      | refine ev_loadB rfl rfl tabOk rfl rfl (by assumption) (by rfl) ?_
      | refine ev_loadAggB rfl rfl tabOk rfl rfl (by assumption) (by rfl) ?_
      | refine ev_arith rfl rfl rfl rfl rfl (by simp only [lowK, hiK]; omega) ?_
      | refine ev_rem rfl rfl rfl rfl (by omega) (by omega) ?_
      | refine ev_quo rfl rfl rfl rfl (by omega) (by omega) (by simp only [hiK]; omega) ?_
      | refine ev_index rfl rfl tabOk rfl rfl rfl (by omega) (by omega) ?_
      | refine ev_indexA rfl rfl tabOk rfl rfl rfl (by omega) (by omega) rfl ?_
      | refine ev_convB rfl rfl tabOk rfl rfl rfl rfl ?_
      | refine ev_conv rfl rfl tabOk rfl rfl rfl (by simp only [lowK, hiK]; omega) ?_)
    refine ev_condD rfl (fun hl2 => ?_) (fun hl2 => ?_)
    · have hi1 : i < v.texts.length := by omega
      obtain ⟨g, o, e1, hcx⟩ := strs_at (hV.fr0 hf).1 hi1
      subst e1
      have hcx : w4.cell? ⟨g, o + (i : Int).toNat * 1, none⟩ = some (sv (v.t i)) := hcx
      repeat (first
        | refine stepF_ok tabOk [] (m := 400) rfl ?_
        | refine stepF_ok tabOk [] (m := 16) rfl ?_
        | refine stepF_ok tabOk [] (m := 3) rfl ?_
        | refine stepF_ok tabOk [] (m := 0) rfl ?_
        | refine ev_load rfl rfl tabOk rfl rfl (by assumption) ?_
        | refine ev_loadB rfl rfl tabOk rfl rfl (by assumption) (by rfl) ?_
        | refine ev_loadAggB rfl rfl tabOk rfl rfl (by assumption) (by rfl) ?_
        | refine ev_arith rfl rfl rfl rfl rfl (by simp only [lowK, hiK]; omega) ?_
        | refine ev_rem rfl rfl rfl rfl (by omega) (by omega) ?_
        | refine ev_quo rfl rfl rfl rfl (by omega) (by omega) (by simp only [hiK]; omega) ?_
        | refine ev_index rfl rfl tabOk rfl rfl rfl (by omega) (by omega) ?_
        | refine ev_indexA rfl rfl tabOk rfl rfl rfl (by omega) (by omega) rfl ?_
        | refine ev_convB rfl rfl tabOk rfl rfl rfl rfl ?_
        | refine ev_conv rfl rfl tabOk rfl rfl rfl (by simp only [lowK, hiK]; omega) ?_)
      refine ev_draw mixed (by kernel_rfl) ?_
      repeat (first
        | refine stepQF_ok tabOk (m := 400) rfl ?_
        | refine stepQF_ok tabOk (m := 16) rfl ?_
        | refine stepQF_ok tabOk (m := 3) rfl ?_
        | refine stepQF_ok tabOk (m := 0) rfl ?_
        | refine q_load rfl rfl tabOk rfl rfl (fun _ hf => cell_fr (by assumption) hf id) ?_
        | refine q_loadB rfl rfl tabOk rfl rfl (by assumption) (by rfl) ?_
        | refine q_loadAggB rfl rfl tabOk rfl rfl (by assumption) (by rfl) ?_
        | refine q_arith rfl rfl rfl rfl rfl (by simp only [lowK, hiK]; omega) ?_
        | refine q_rem rfl rfl rfl rfl (by omega) (by omega) ?_
        | refine q_quo rfl rfl rfl rfl (by omega) (by omega) (by simp only [hiK]; omega) ?_
        | refine q_index rfl rfl tabOk rfl rfl rfl (by omega) (by omega) ?_
        | refine q_convB rfl rfl tabOk rfl rfl rfl rfl ?_
        | refine q_conv rfl rfl tabOk rfl rfl rfl (by simp only [lowK, hiK]; omega) ?_)
      refine q_indexAddr (len := v.texts.length) (i := i) rfl rfl tabOk rfl rfl rfl (by omega) (by omega) ?_
      repeat (first
        | refine stepQF_ok tabOk (m := 400) rfl ?_
        | refine stepQF_ok tabOk (m := 16) rfl ?_
        | refine stepQF_ok tabOk (m := 3) rfl ?_
        | refine stepQF_ok tabOk (m := 0) rfl ?_
        | refine q_load rfl rfl tabOk rfl rfl (fun _ hf => cell_fr (by assumption) hf id) ?_
        | refine q_loadB rfl rfl tabOk rfl rfl (by assumption) (by rfl) ?_
        | refine q_loadAggB rfl rfl tabOk rfl rfl (by assumption) (by rfl) ?_
        | refine q_arith rfl rfl rfl rfl rfl (by simp only [lowK, hiK]; omega) ?_
        | refine q_rem rfl rfl rfl rfl (by omega) (by omega) ?_
        | refine q_quo rfl rfl rfl rfl (by omega) (by omega) (by simp only [hiK]; omega) ?_
        | refine q_index rfl rfl tabOk rfl rfl rfl (by omega) (by omega) ?_
        | refine q_convB rfl rfl tabOk rfl rfl rfl rfl ?_
        | refine q_conv rfl rfl tabOk rfl rfl rfl (by simp only [lowK, hiK]; omega) ?_)
      refine q_sliceStr (s := s) (i := k) rfl rfl tabOk rfl rfl rfl rfl (by omega) (by omega) (by omega) ?_
      rw [hbd]
      repeat (first
        | refine stepQF_ok tabOk (m := 400) rfl ?_
        | refine stepQF_ok tabOk (m := 16) rfl ?_
        | refine stepQF_ok tabOk (m := 3) rfl ?_
        | refine stepQF_ok tabOk (m := 0) rfl ?_
        | refine q_load rfl rfl tabOk rfl rfl (fun _ hf => cell_fr (by assumption) hf id) ?_
        | refine q_loadB rfl rfl tabOk rfl rfl (by assumption) (by rfl) ?_
        | refine q_loadAggB rfl rfl tabOk rfl rfl (by assumption) (by rfl) ?_
        | refine q_arith rfl rfl rfl rfl rfl (by simp only [lowK, hiK]; omega) ?_
        | refine q_rem rfl rfl rfl rfl (by omega) (by omega) ?_
        | refine q_quo rfl rfl rfl rfl (by omega) (by omega) (by simp only [hiK]; omega) ?_
        | refine q_index rfl rfl tabOk rfl rfl rfl (by omega) (by omega) ?_
        | refine q_convB rfl rfl tabOk rfl rfl rfl rfl ?_
        | refine q_conv rfl rfl tabOk rfl rfl rfl (by simp only [lowK, hiK]; omega) ?_)
      refine q_end fun w5 hf5 => ?_
      have hB5 := hB.fr0 hf5
      have hO5 := hO.fr0 hf5
      have hf05 := hf.tr hf5
      clear hB hO hf hcx
      refine ev_condD rfl (fun he => ?_) (fun he => ?_)
      · have hbi := byte_is hok hi1 he
        have hfd : fd v b (i + 1) = i := by unfold fd; rw [hbi, if_pos (by omega)]
        repeat (first
          | refine stepF_ok tabOk [] (m := 400) rfl ?_
          | refine stepF_ok tabOk [] (m := 16) rfl ?_
          | refine stepF_ok tabOk [] (m := 3) rfl ?_
          | refine stepF_ok tabOk [] (m := 0) rfl ?_
          | refine ev_load rfl rfl tabOk rfl rfl (by assumption) ?_
          | refine ev_loadB rfl rfl tabOk rfl rfl (by assumption) (by rfl) ?_
          | refine ev_loadAggB rfl rfl tabOk rfl rfl (by assumption) (by rfl) ?_
          | refine ev_arith rfl rfl rfl rfl rfl (by simp only [lowK, hiK]; omega) ?_
          | refine ev_rem rfl rfl rfl rfl (by omega) (by omega) ?_
          | refine ev_quo rfl rfl rfl rfl (by omega) (by omega) (by simp only [hiK]; omega) ?_
          | refine ev_index rfl rfl tabOk rfl rfl rfl (by omega) (by omega) ?_
          | refine ev_indexA rfl rfl tabOk rfl rfl rfl (by omega) (by omega) rfl ?_
          | refine ev_convB rfl rfl tabOk rfl rfl rfl rfl ?_
          | refine ev_conv rfl rfl tabOk rfl rfl rfl (by simp only [lowK, hiK]; omega) ?_)
        exact ev_next (i + 1) (by omega) ⟨by omega, hf05, hB5, hO5⟩ ⟨rfl, rfl, rfl, rfl, by rw [hfd]; rfl, rfl, trivial⟩
      · have hfd : fd v b (i + 1) = fd v b i := by
          have : v.byte b ≠ i := fun e => he (by rw [← e]; exact byte_at (by omega))
          unfold fd
          by_cases h : v.byte b < i
          · rw [if_pos h, if_pos (by omega)]
          · rw [if_neg h, if_neg (by omega)]
        repeat (first
          | refine stepF_ok tabOk [] (m := 400) rfl ?_
          | refine stepF_ok tabOk [] (m := 16) rfl ?_
          | refine stepF_ok tabOk [] (m := 3) rfl ?_
          | refine stepF_ok tabOk [] (m := 0) rfl ?_
          | refine ev_load rfl rfl tabOk rfl rfl (by assumption) ?_
          | refine ev_loadB rfl rfl tabOk rfl rfl (by assumption) (by rfl) ?_
          | refine ev_loadAggB rfl rfl tabOk rfl rfl (by assumption) (by rfl) ?_
          | refine ev_arith rfl rfl rfl rfl rfl (by simp only [lowK, hiK]; omega) ?_
          | refine ev_rem rfl rfl rfl rfl (by omega) (by omega) ?_
          | refine ev_quo rfl rfl rfl rfl (by omega) (by omega) (by simp only [hiK]; omega) ?_
          | refine ev_index rfl rfl tabOk rfl rfl rfl (by omega) (by omega) ?_
          | refine ev_indexA rfl rfl tabOk rfl rfl rfl (by omega) (by omega) rfl ?_
          | refine ev_convB rfl rfl tabOk rfl rfl rfl rfl ?_
          | refine ev_conv rfl rfl tabOk rfl rfl rfl (by simp only [lowK, hiK]; omega) ?_)
        exact ev_next (i + 1) (by omega) ⟨by omega, hf05, hB5, hO5⟩ ⟨rfl, rfl, rfl, rfl, by rw [hfd]; rfl, rfl, trivial⟩
    · have hin : i = v.texts.length := by omega
      subst hin
      by_cases hbb : v.byte b < v.texts.length
      · have hfd : fd v b v.texts.length = v.byte b := by unfold fd; rw [if_pos hbb]
        rw [hfd]
        repeat (first
          | refine stepF_ok tabOk [] (m := 400) rfl ?_
          | refine stepF_ok tabOk [] (m := 16) rfl ?_
          | refine stepF_ok tabOk [] (m := 3) rfl ?_
          | refine stepF_ok tabOk [] (m := 0) rfl ?_
          | refine ev_load rfl rfl tabOk rfl rfl (by assumption) ?_
          | refine ev_loadB rfl rfl tabOk rfl rfl (by assumption) (by rfl) ?_
          | refine ev_loadAggB rfl rfl tabOk rfl rfl (by assumption) (by rfl) ?_
          | refine ev_arith rfl rfl rfl rfl rfl (by simp only [lowK, hiK]; omega) ?_
          | refine ev_rem rfl rfl rfl rfl (by omega) (by omega) ?_
          | refine ev_quo rfl rfl rfl rfl (by omega) (by omega) (by simp only [hiK]; omega) ?_
          | refine ev_index rfl rfl tabOk rfl rfl rfl (by omega) (by omega) ?_
          | refine ev_indexA rfl rfl tabOk rfl rfl rfl (by omega) (by omega) rfl ?_
          | refine ev_convB rfl rfl tabOk rfl rfl rfl rfl ?_
          | refine ev_conv rfl rfl tabOk rfl rfl rfl (by simp only [lowK, hiK]; omega) ?_)
        have hlen1 : (v.bytes (s.take k)).length ≤ 5000000 := by omega
        refine ev_append1 tabOk rfl rfl (fun _ => rfl) rfl rfl inf3 rfl (by omega) (fun _ => rfl) rfl rfl (by simp [Value.cells]) (by simp [flatV, Value.cells, Value.oneCell']) rfl hO (by omega) (fun a2 w5 q5 hO5 hf5 hn5 => ?_)
        have hbt := bytes_take (v := v) hk1
        rw [← hb] at hbt
        have hO5 : OI w5 a2 (v.bytes (s.take (k + 1))) := by
          rw [hbt]
          exact OI.app (m := [(v.byte b : Int)]) hO5 rfl
        repeat (first
          | refine stepF_ok tabOk [] (m := 400) rfl ?_
          | refine stepF_ok tabOk [] (m := 16) rfl ?_
          | refine stepF_ok tabOk [] (m := 3) rfl ?_
          | refine stepF_ok tabOk [] (m := 0) rfl ?_
          | refine ev_load rfl rfl tabOk rfl rfl (by assumption) ?_
          | refine ev_loadB rfl rfl tabOk rfl rfl (by assumption) (by rfl) ?_
          | refine ev_loadAggB rfl rfl tabOk rfl rfl (by assumption) (by rfl) ?_
          | refine ev_arith rfl rfl rfl rfl rfl (by simp only [lowK, hiK]; omega) ?_
          | refine ev_rem rfl rfl rfl rfl (by omega) (by omega) ?_
          | refine ev_quo rfl rfl rfl rfl (by omega) (by omega) (by simp only [hiK]; omega) ?_
          | refine ev_index rfl rfl tabOk rfl rfl rfl (by omega) (by omega) ?_
          | refine ev_indexA rfl rfl tabOk rfl rfl rfl (by omega) (by omega) rfl ?_
          | refine ev_convB rfl rfl tabOk rfl rfl rfl rfl ?_
          | refine ev_conv rfl rfl tabOk rfl rfl rfl (by simp only [lowK, hiK]; omega) ?_)
        refine ev_next (k + 1, a2) (by simp only; omega) ⟨by simp only; omega, fun j hj => ?_, hf.trans hf5 (fun b hb e => by have := hg b e; omega), hB.fr hf5 (fun e => by have := hg p e; omega), hO5, fun g hg' => ?_⟩ ⟨rfl, rfl, rfl, rfl, trivial⟩
        · by_cases e : j = k
          · subst e; rw [← hb]; exact hbb
          · exact hall j (by simp only at hj; omega)
        · rcases hn5 g hg' with h | h
          · exact hg g h
          · have := hB.lt; omega
      · have hfd : fd v b v.texts.length = -1 := by unfold fd; rw [if_neg hbb]
        rw [hfd]
        have hbad := enc_byte h0 hk1 hall (by rw [← hb]; exact hbb)
        repeat (first
          | refine stepF_ok tabOk [] (m := 400) rfl ?_
          | refine stepF_ok tabOk [] (m := 16) rfl ?_
          | refine stepF_ok tabOk [] (m := 3) rfl ?_
          | refine stepF_ok tabOk [] (m := 0) rfl ?_
          | refine ev_load rfl rfl tabOk rfl rfl (by assumption) ?_
          | refine ev_loadB rfl rfl tabOk rfl rfl (by assumption) (by rfl) ?_
          | refine ev_loadAggB rfl rfl tabOk rfl rfl (by assumption) (by rfl) ?_
          | refine ev_arith rfl rfl rfl rfl rfl (by simp only [lowK, hiK]; omega) ?_
          | refine ev_rem rfl rfl rfl rfl (by omega) (by omega) ?_
          | refine ev_quo rfl rfl rfl rfl (by omega) (by omega) (by simp only [hiK]; omega) ?_
          | refine ev_index rfl rfl tabOk rfl rfl rfl (by omega) (by omega) ?_
          | refine ev_indexA rfl rfl tabOk rfl rfl rfl (by omega) (by omega) rfl ?_
          | refine ev_convB rfl rfl tabOk rfl rfl rfl rfl ?_
          | refine ev_conv rfl rfl tabOk rfl rfl rfl (by simp only [lowK, hiK]; omega) ?_)
        refine ev_buildSlice tabOk rfl rfl rfl inf3 rfl rfl rfl (by simp) rfl (fun q5 w5 hq5 hb5 hf5 => ?_)
        have ho5 := own_of_blk (m := 0) (sz := 1) hb5 rfl (by omega)
        repeat (first
          | refine stepF_ok tabOk [] (m := 400) rfl ?_
          | refine stepF_ok tabOk [] (m := 16) rfl ?_
          | refine stepF_ok tabOk [] (m := 3) rfl ?_
          | refine stepF_ok tabOk [] (m := 0) rfl ?_
          | refine ev_load rfl rfl tabOk rfl rfl (by assumption) ?_
          | refine ev_loadB rfl rfl tabOk rfl rfl (by assumption) (by rfl) ?_
          | refine ev_loadAggB rfl rfl tabOk rfl rfl (by assumption) (by rfl) ?_
          | refine ev_arith rfl rfl rfl rfl rfl (by simp only [lowK, hiK]; omega) ?_
          | refine ev_rem rfl rfl rfl rfl (by omega) (by omega) ?_
          | refine ev_quo rfl rfl rfl rfl (by omega) (by omega) (by simp only [hiK]; omega) ?_
          | refine ev_index rfl rfl tabOk rfl rfl rfl (by omega) (by omega) ?_
          | refine ev_indexA rfl rfl tabOk rfl rfl rfl (by omega) (by omega) rfl ?_
          | refine ev_convB rfl rfl tabOk rfl rfl rfl rfl ?_
          | refine ev_conv rfl rfl tabOk rfl rfl rfl (by simp only [lowK, hiK]; omega) ?_)
        refine retG tabOk (.inr rfl) rfl [.slice (some ⟨q5, 0, none⟩) 0 0, i64 k, i64 132] ⟨rfl, rfl, rfl, trivial⟩ ⟨⟨.slice (some ⟨q5, 0, none⟩) 0 0, by unfold encR; rw [hbad]; rfl, by rw [hbad]; exact ho5, fun g hg => ?_⟩, hf.tr hf5⟩
        simp only [Value.ownBlock, Option.some.injEq] at hg
        have := hf.size; omega
  · have hkn : k = s.length := by omega
    subst hkn
    rw [List.take_length] at hO hbl
    have henc := enc_all h0 hall
    repeat (first
      | refine stepF_ok tabOk [] (m := 400) rfl ?_
      | refine stepF_ok tabOk [] (m := 16) rfl ?_
      | refine stepF_ok tabOk [] (m := 3) rfl ?_
      | refine stepF_ok tabOk [] (m := 0) rfl ?_
      | refine ev_load rfl rfl tabOk rfl rfl (by assumption) ?_
      | refine ev_loadB rfl rfl tabOk rfl rfl (by assumption) (by rfl) ?_
      | refine ev_loadAggB rfl rfl tabOk rfl rfl (by assumption) (by rfl) ?_
      | refine ev_arith rfl rfl rfl rfl rfl (by simp only [lowK, hiK]; omega) ?_
      | refine ev_rem rfl rfl rfl rfl (by omega) (by omega) ?_
      | refine ev_quo rfl rfl rfl rfl (by omega) (by omega) (by simp only [hiK]; omega) ?_
      | refine ev_index rfl rfl tabOk rfl rfl rfl (by omega) (by omega) ?_
      | refine ev_indexA rfl rfl tabOk rfl rfl rfl (by omega) (by omega) rfl ?_
      | refine ev_convB rfl rfl tabOk rfl rfl rfl rfl ?_
      | refine ev_conv rfl rfl tabOk rfl rfl rfl (by simp only [lowK, hiK]; omega) ?_)
    refine ev_loop (α := List Int × Value) (fun y => [(2, .pointer (some ⟨p, 0, none⟩)), (9, y.2)])
      (fun y w' => v.enc s = (v.red y.1, 0, 0) ∧ y.1.length ≤ s.length ∧ Fr no w w' ∧ Blk w' p [.slice A v.texts.length c, .slice B v.merges.length d] 28 ∧ OI w' y.2 y.1 ∧ (∀ g, y.2.ownBlock = some g → p < g)) (fun y => y.1.length) (v.bytes s, a) ⟨rfl, rfl, trivial⟩
      ⟨henc, by simp only; omega, hf, hB, hO, hg⟩ ?_
    clear henc hf hB hO hg hbl hall
    rintro ⟨l, a⟩ w3 ⟨he, hls, hf, hB, hO, hg⟩
    simp only at he hls hO hg
    repeat (first
      | refine stepF_ok tabOk [] (m := 400) rfl ?_
      | refine stepF_ok tabOk [] (m := 16) rfl ?_
      | refine stepF_ok tabOk [] (m := 3) rfl ?_
      | refine stepF_ok tabOk [] (m := 0) rfl ?_
      | refine ev_load rfl rfl tabOk rfl rfl (by assumption) ?_
      | refine ev_loadB rfl rfl tabOk rfl rfl (by assumption) (by rfl) ?_
      | refine ev_loadAggB rfl rfl tabOk rfl rfl (by assumption) (by rfl) ?_
      | refine ev_arith rfl rfl rfl rfl rfl (by simp only [lowK, hiK]; omega) ?_
      | refine ev_rem rfl rfl rfl rfl (by omega) (by omega) ?_
      | refine ev_quo rfl rfl rfl rfl (by omega) (by omega) (by simp only [hiK]; omega) ?_
      | refine ev_index rfl rfl tabOk rfl rfl rfl (by omega) (by omega) ?_
      | refine ev_indexA rfl rfl tabOk rfl rfl rfl (by omega) (by omega) rfl ?_
      | refine ev_convB rfl rfl tabOk rfl rfl rfl rfl ?_
      | refine ev_conv rfl rfl tabOk rfl rfl rfl (by simp only [lowK, hiK]; omega) ?_)
    -- the merges, one after the other; once one is found, its round is the last
    refine ev_join2 (α := Unit) (fun _ => [(2, .pointer (some ⟨p, 0, none⟩)), (9, a), (13, i64 (if v.rk l < v.merges.length then (v.at l (v.rk l) : Int) else -1)), (14, i64 (if v.rk l < v.merges.length then (v.m (v.rk l)).2.2 else 0))])
      (fun _ w' => Fr no w w' ∧ Blk w' p [.slice A v.texts.length c, .slice B v.merges.length d] 28 ∧ OI w' a l) ?_ ?_
    · refine ev_loop (α := Nat × Bool) (fun y => [(2, .pointer (some ⟨p, 0, none⟩)), (9, a), (13, i64 (if y.2 then (v.at l (v.rk l) : Int) else -1)), (14, i64 (if y.2 then (v.m (v.rk l)).2.2 else 0)), (15, i64 y.1)])
        (fun y w' => y.1 ≤ v.merges.length ∧ (y.2 = false → ∀ j, j < y.1 → ¬ v.at l j < l.length) ∧ (y.2 = true → v.rk l < v.merges.length ∧ y.1 = v.rk l + 1) ∧ Fr no w w' ∧ Blk w' p [.slice A v.texts.length c, .slice B v.merges.length d] 28 ∧ OI w' a l) (fun y => v.merges.length - y.1) (0, false)
        ⟨rfl, rfl, rfl, rfl, rfl, trivial⟩ ⟨Nat.zero_le _, fun _ j h => absurd h (by simp), fun h => (by cases h), hf, hB, hO⟩ ?_
      clear hf hB hO
      rintro ⟨r, f⟩ w4 ⟨hr, hf0, hf1, hf, hB, hO⟩
      simp only at hr hf0 hf1
      cases f with
      | true =>
        obtain ⟨h1, h2⟩ := hf1 rfl
        have hnn : ¬ ((v.at l (v.rk l) : Int) < 0) := by omega
        repeat (first
          | refine stepF_ok tabOk [] (m := 400) rfl ?_
          | refine stepF_ok tabOk [] (m := 16) rfl ?_
          | refine stepF_ok tabOk [] (m := 3) rfl ?_
          | refine stepF_ok tabOk [] (m := 0) rfl ?_
          | refine ev_load rfl rfl tabOk rfl rfl (by assumption) ?_
          | refine ev_loadB rfl rfl tabOk rfl rfl (by assumption) (by rfl) ?_
          | refine ev_loadAggB rfl rfl tabOk rfl rfl (by assumption) (by rfl) ?_
          | refine ev_arith rfl rfl rfl rfl rfl (by simp only [lowK, hiK]; omega) ?_
          | refine ev_rem rfl rfl rfl rfl (by omega) (by omega) ?_
          | refine ev_quo rfl rfl rfl rfl (by omega) (by omega) (by simp only [hiK]; omega) ?_
          | refine ev_index rfl rfl tabOk rfl rfl rfl (by omega) (by omega) ?_
          | refine ev_indexA rfl rfl tabOk rfl rfl rfl (by omega) (by omega) rfl ?_
          | refine ev_convB rfl rfl tabOk rfl rfl rfl rfl ?_
          | refine ev_conv rfl rfl tabOk rfl rfl rfl (by simp only [lowK, hiK]; omega) ?_)
        by_cases h3 : r < v.merges.length
        · rw [show decide (((r, true).1 : Int) < v.merges.length) = true from decide_eq_true (by simp only; omega)]
          repeat (first
            | refine stepF_ok tabOk [] (m := 400) rfl ?_
            | refine stepF_ok tabOk [] (m := 16) rfl ?_
            | refine stepF_ok tabOk [] (m := 3) rfl ?_
            | refine stepF_ok tabOk [] (m := 0) rfl ?_
            | refine ev_load rfl rfl tabOk rfl rfl (by assumption) ?_
            | refine ev_loadB rfl rfl tabOk rfl rfl (by assumption) (by rfl) ?_
            | refine ev_loadAggB rfl rfl tabOk rfl rfl (by assumption) (by rfl) ?_
            | refine ev_arith rfl rfl rfl rfl rfl (by simp only [lowK, hiK]; omega) ?_
            | refine ev_rem rfl rfl rfl rfl (by omega) (by omega) ?_
            | refine ev_quo rfl rfl rfl rfl (by omega) (by omega) (by simp only [hiK]; omega) ?_
            | refine ev_index rfl rfl tabOk rfl rfl rfl (by omega) (by omega) ?_
            | refine ev_indexA rfl rfl tabOk rfl rfl rfl (by omega) (by omega) rfl ?_
            | refine ev_convB rfl rfl tabOk rfl rfl rfl rfl ?_
            | refine ev_conv rfl rfl tabOk rfl rfl rfl (by simp only [lowK, hiK]; omega) ?_)
          exact ev_out () ⟨hf, hB, hO⟩ ⟨rfl, rfl, by rw [if_pos h1]; rfl, by rw [if_pos h1]; rfl, trivial⟩
        · rw [show decide (((r, true).1 : Int) < v.merges.length) = false from decide_eq_false (by simp only; omega)]
          repeat (first
            | refine stepF_ok tabOk [] (m := 400) rfl ?_
            | refine stepF_ok tabOk [] (m := 16) rfl ?_
            | refine stepF_ok tabOk [] (m := 3) rfl ?_
            | refine stepF_ok tabOk [] (m := 0) rfl ?_
            | refine ev_load rfl rfl tabOk rfl rfl (by assumption) ?_
            | refine ev_loadB rfl rfl tabOk rfl rfl (by assumption) (by rfl) ?_
            | refine ev_loadAggB rfl rfl tabOk rfl rfl (by assumption) (by rfl) ?_
            | refine ev_arith rfl rfl rfl rfl rfl (by simp only [lowK, hiK]; omega) ?_
            | refine ev_rem rfl rfl rfl rfl (by omega) (by omega) ?_
            | refine ev_quo rfl rfl rfl rfl (by omega) (by omega) (by simp only [hiK]; omega) ?_
            | refine ev_index rfl rfl tabOk rfl rfl rfl (by omega) (by omega) ?_
            | refine ev_indexA rfl rfl tabOk rfl rfl rfl (by omega) (by omega) rfl ?_
            | refine ev_convB rfl rfl tabOk rfl rfl rfl rfl ?_
            | refine ev_conv rfl rfl tabOk rfl rfl rfl (by simp only [lowK, hiK]; omega) ?_)
          exact ev_out () ⟨hf, hB, hO⟩ ⟨rfl, rfl, by rw [if_pos h1]; rfl, by rw [if_pos h1]; rfl, trivial⟩
      | false =>
        have hno := hf0 rfl
        clear hf0 hf1
        repeat (first
          | refine stepF_ok tabOk [] (m := 400) rfl ?_
          | refine stepF_ok tabOk [] (m := 16) rfl ?_
          | refine stepF_ok tabOk [] (m := 3) rfl ?_
          | refine stepF_ok tabOk [] (m := 0) rfl ?_
          | refine ev_load rfl rfl tabOk rfl rfl (by assumption) ?_
          | refine ev_loadB rfl rfl tabOk rfl rfl (by assumption) (by rfl) ?_
          | refine ev_loadAggB rfl rfl tabOk rfl rfl (by assumption) (by rfl) ?_
          | refine ev_arith rfl rfl rfl rfl rfl (by simp only [lowK, hiK]; omega) ?_
          | refine ev_rem rfl rfl rfl rfl (by omega) (by omega) ?_
          | refine ev_quo rfl rfl rfl rfl (by omega) (by omega) (by simp only [hiK]; omega) ?_
          | refine ev_index rfl rfl tabOk rfl rfl rfl (by omega) (by omega) ?_
          | refine ev_indexA rfl rfl tabOk rfl rfl rfl (by omega) (by omega) rfl ?_
          | refine ev_convB rfl rfl tabOk rfl rfl rfl rfl ?_
          | refine ev_conv rfl rfl tabOk rfl rfl rfl (by simp only [lowK, hiK]; omega) ?_)
        refine ev_guardD rfl rfl (fun hlt => ?_) (fun hlt => ?_)
        · have hr1 : r < v.merges.length := by simp only at hlt; omega
          repeat (first
            | refine stepF_ok tabOk [] (m := 400) rfl ?_
            | refine stepF_ok tabOk [] (m := 16) rfl ?_
            | refine stepF_ok tabOk [] (m := 3) rfl ?_
            | refine stepF_ok tabOk [] (m := 0) rfl ?_
            | refine ev_load rfl rfl tabOk rfl rfl (by assumption) ?_
            | refine ev_loadB rfl rfl tabOk rfl rfl (by assumption) (by rfl) ?_
            | refine ev_loadAggB rfl rfl tabOk rfl rfl (by assumption) (by rfl) ?_
            | refine ev_arith rfl rfl rfl rfl rfl (by simp only [lowK, hiK]; omega) ?_
            | refine ev_rem rfl rfl rfl rfl (by omega) (by omega) ?_
            | refine ev_quo rfl rfl rfl rfl (by omega) (by omega) (by simp only [hiK]; omega) ?_
            | refine ev_index rfl rfl tabOk rfl rfl rfl (by omega) (by omega) ?_
            | refine ev_indexA rfl rfl tabOk rfl rfl rfl (by omega) (by omega) rfl ?_
            | refine ev_convB rfl rfl tabOk rfl rfl rfl rfl ?_
            | refine ev_conv rfl rfl tabOk rfl rfl rfl (by simp only [lowK, hiK]; omega) ?_)
          refine ev_loop (α := Nat × Bool) (fun y => [(2, .pointer (some ⟨p, 0, none⟩)), (9, a), (13, i64 (if y.2 then (v.at l r : Int) else -1)), (14, i64 (if y.2 then (v.m r).2.2 else 0)), (15, i64 r), (16, i64 y.1)])
            (fun y w' => y.1 ≤ l.length ∧ (y.2 = false → ∀ j, j < y.1 → ¬ v.mAt l r j) ∧ (y.2 = true → v.at l r < l.length ∧ y.1 = v.at l r + 1) ∧ Fr no w w' ∧ Blk w' p [.slice A v.texts.length c, .slice B v.merges.length d] 28 ∧ OI w' a l) (fun y => l.length - y.1) (0, false)
            ⟨rfl, rfl, rfl, rfl, rfl, rfl, trivial⟩ ⟨Nat.zero_le _, fun _ j h => absurd h (by simp), fun h => (by cases h), hf, hB, hO⟩ ?_
          clear hf hB hO
          rintro ⟨i, f⟩ w5 ⟨hi, hf0, hf1, hf, hB, hO⟩
          simp only at hi hf0 hf1
          obtain ⟨A1, c1, ea, hC, _⟩ := hO.cs
          cases f with
          | true =>
            obtain ⟨h1, h2⟩ := hf1 rfl
            have hrk := rk_is hr1 h1 hno
            subst ea
            have hnn : ¬ ((v.at l r : Int) < 0) := by omega
            repeat (first
              | refine stepF_ok tabOk [] (m := 400) rfl ?_
              | refine stepF_ok tabOk [] (m := 16) rfl ?_
              | refine stepF_ok tabOk [] (m := 3) rfl ?_
              | refine stepF_ok tabOk [] (m := 0) rfl ?_
              | refine ev_load rfl rfl tabOk rfl rfl (by assumption) ?_
              | refine ev_loadB rfl rfl tabOk rfl rfl (by assumption) (by rfl) ?_
              | refine ev_loadAggB rfl rfl tabOk rfl rfl (by assumption) (by rfl) ?_
              | refine ev_arith rfl rfl rfl rfl rfl (by simp only [lowK, hiK]; omega) ?_
              | refine ev_rem rfl rfl rfl rfl (by omega) (by omega) ?_
              | refine ev_quo rfl rfl rfl rfl (by omega) (by omega) (by simp only [hiK]; omega) ?_
              | refine ev_index rfl rfl tabOk rfl rfl rfl (by omega) (by omega) ?_
              | refine ev_indexA rfl rfl tabOk rfl rfl rfl (by omega) (by omega) rfl ?_
              | refine ev_convB rfl rfl tabOk rfl rfl rfl rfl ?_
              | refine ev_conv rfl rfl tabOk rfl rfl rfl (by simp only [lowK, hiK]; omega) ?_)
            by_cases h3 : i + 1 < l.length
            · rw [show decide (((i, true).1 : Int) + 1 < l.length) = true from decide_eq_true (by simp only; omega)]
              repeat (first
                | refine stepF_ok tabOk [] (m := 400) rfl ?_
                | refine stepF_ok tabOk [] (m := 16) rfl ?_
                | refine stepF_ok tabOk [] (m := 3) rfl ?_
                | refine stepF_ok tabOk [] (m := 0) rfl ?_
                | refine ev_load rfl rfl tabOk rfl rfl (by assumption) ?_
                | refine ev_loadB rfl rfl tabOk rfl rfl (by assumption) (by rfl) ?_
                | refine ev_loadAggB rfl rfl tabOk rfl rfl (by assumption) (by rfl) ?_
                | refine ev_arith rfl rfl rfl rfl rfl (by simp only [lowK, hiK]; omega) ?_
                | refine ev_rem rfl rfl rfl rfl (by omega) (by omega) ?_
                | refine ev_quo rfl rfl rfl rfl (by omega) (by omega) (by simp only [hiK]; omega) ?_
                | refine ev_index rfl rfl tabOk rfl rfl rfl (by omega) (by omega) ?_
                | refine ev_indexA rfl rfl tabOk rfl rfl rfl (by omega) (by omega) rfl ?_
                | refine ev_convB rfl rfl tabOk rfl rfl rfl rfl ?_
                | refine ev_conv rfl rfl tabOk rfl rfl rfl (by simp only [lowK, hiK]; omega) ?_)
              exact ev_next (r + 1, true) (by simp only; omega) ⟨by simp only; omega, fun h => (by cases h), fun _ => ⟨by omega, by simp only; omega⟩, hf, hB, hO⟩ ⟨rfl, rfl, by rw [hrk]; rfl, by rw [hrk]; rfl, rfl, trivial⟩
            · rw [show decide (((i, true).1 : Int) + 1 < l.length) = false from decide_eq_false (by simp only; omega)]
              repeat (first
                | refine stepF_ok tabOk [] (m := 400) rfl ?_
                | refine stepF_ok tabOk [] (m := 16) rfl ?_
                | refine stepF_ok tabOk [] (m := 3) rfl ?_
                | refine stepF_ok tabOk [] (m := 0) rfl ?_
                | refine ev_load rfl rfl tabOk rfl rfl (by assumption) ?_
                | refine ev_loadB rfl rfl tabOk rfl rfl (by assumption) (by rfl) ?_
                | refine ev_loadAggB rfl rfl tabOk rfl rfl (by assumption) (by rfl) ?_
                | refine ev_arith rfl rfl rfl rfl rfl (by simp only [lowK, hiK]; omega) ?_
                | refine ev_rem rfl rfl rfl rfl (by omega) (by omega) ?_
                | refine ev_quo rfl rfl rfl rfl (by omega) (by omega) (by simp only [hiK]; omega) ?_
                | refine ev_index rfl rfl tabOk rfl rfl rfl (by omega) (by omega) ?_
                | refine ev_indexA rfl rfl tabOk rfl rfl rfl (by omega) (by omega) rfl ?_
                | refine ev_convB rfl rfl tabOk rfl rfl rfl rfl ?_
                | refine ev_conv rfl rfl tabOk rfl rfl rfl (by simp only [lowK, hiK]; omega) ?_)
              exact ev_next (r + 1, true) (by simp only; omega) ⟨by simp only; omega, fun h => (by cases h), fun _ => ⟨by omega, by simp only; omega⟩, hf, hB, hO⟩ ⟨rfl, rfl, by rw [hrk]; rfl, by rw [hrk]; rfl, rfl, trivial⟩
          | false =>
            have hnoI := hf0 rfl
            clear hf0 hf1
            subst ea
            repeat (first
              | refine stepF_ok tabOk [] (m := 400) rfl ?_
              | refine stepF_ok tabOk [] (m := 16) rfl ?_
              | refine stepF_ok tabOk [] (m := 3) rfl ?_
              | refine stepF_ok tabOk [] (m := 0) rfl ?_
              | refine ev_load rfl rfl tabOk rfl rfl (by assumption) ?_
              | refine ev_loadB rfl rfl tabOk rfl rfl (by assumption) (by rfl) ?_
              | refine ev_loadAggB rfl rfl tabOk rfl rfl (by assumption) (by rfl) ?_
              | refine ev_arith rfl rfl rfl rfl rfl (by simp only [lowK, hiK]; omega) ?_
              | refine ev_rem rfl rfl rfl rfl (by omega) (by omega) ?_
              | refine ev_quo rfl rfl rfl rfl (by omega) (by omega) (by simp only [hiK]; omega) ?_
              | refine ev_index rfl rfl tabOk rfl rfl rfl (by omega) (by omega) ?_
              | refine ev_indexA rfl rfl tabOk rfl rfl rfl (by omega) (by omega) rfl ?_
              | refine ev_convB rfl rfl tabOk rfl rfl rfl rfl ?_
              | refine ev_conv rfl rfl tabOk rfl rfl rfl (by simp only [lowK, hiK]; omega) ?_)
            refine ev_guardD rfl rfl (fun h2 => ?_) (fun h2 => ?_)
            · have h2 : i + 1 < l.length := by simp only at h2; omega
              obtain ⟨ga, oa, e1, hx1⟩ := ints_at hC (j := i) (by omega)
              subst e1
              have hx2 : w5.cell? ⟨ga, oa + ((i : Int) + 1).toNat * 1, none⟩ = some (i64 (l.getD (i + 1) 0)) := by
                obtain ⟨g', o', e', hc'⟩ := ints_at hC (j := i + 1) (by omega)
                cases e'
                rw [show ((i : Int) + 1).toNat = ((i + 1 : Nat) : Int).toNat by omega]; exact hc'
              obtain ⟨g, o, e1, hcx⟩ := mrgs_at (hV.fr0 hf).2 hr1
              subst e1
              obtain ⟨hm1, hm2, hm3⟩ := mrg_cells hcx
              have hm1 : w5.cell? ⟨g, o + (r : Int).toNat * 3, none⟩ = some (i64 (v.m r).1) := hm1
              have hm2 : w5.cell? ⟨g, o + (r : Int).toNat * 3 + 1, none⟩ = some (i64 (v.m r).2.1) := hm2
              have hm3 : ∀ w', Fr no w5 w' → w'.cell? ⟨g, o + (r : Int).toNat * 3 + 2, none⟩ = some (i64 (v.m r).2.2) := fun w' hf' => cell_fr hm3 hf' id
              have fin : ∀ w', Fr no w5 w' → Fr no w w' ∧ Blk w' p [.slice A v.texts.length c, .slice (some ⟨g, o, none⟩) v.merges.length d] 28 ∧ OI w' (.slice (some ⟨ga, oa, none⟩) l.length c1) l := fun w' hf' => ⟨hf.tr hf', hB.fr0 hf', hO.fr0 hf'⟩
              repeat (first
                | refine stepF_ok tabOk [] (m := 400) rfl ?_
                | refine stepF_ok tabOk [] (m := 16) rfl ?_
                | refine stepF_ok tabOk [] (m := 3) rfl ?_
                | refine stepF_ok tabOk [] (m := 0) rfl ?_
                | refine ev_load rfl rfl tabOk rfl rfl (by assumption) ?_
                | refine ev_loadB rfl rfl tabOk rfl rfl (by assumption) (by rfl) ?_
                | refine ev_loadAggB rfl rfl tabOk rfl rfl (by assumption) (by rfl) ?_
                | refine ev_arith rfl rfl rfl rfl rfl (by simp only [lowK, hiK]; omega) ?_
                | refine ev_rem rfl rfl rfl rfl (by omega) (by omega) ?_
                | refine ev_quo rfl rfl rfl rfl (by omega) (by omega) (by simp only [hiK]; omega) ?_
                | refine ev_index rfl rfl tabOk rfl rfl rfl (by omega) (by omega) ?_
                | refine ev_indexA rfl rfl tabOk rfl rfl rfl (by omega) (by omega) rfl ?_
                | refine ev_convB rfl rfl tabOk rfl rfl rfl rfl ?_
                | refine ev_conv rfl rfl tabOk rfl rfl rfl (by simp only [lowK, hiK]; omega) ?_)
              refine ev_draw mixed (by kernel_rfl) ?_
              repeat (first
                | refine stepQF_ok tabOk (m := 400) rfl ?_
                | refine stepQF_ok tabOk (m := 16) rfl ?_
                | refine stepQF_ok tabOk (m := 3) rfl ?_
                | refine stepQF_ok tabOk (m := 0) rfl ?_
                | refine q_load rfl rfl tabOk rfl rfl (fun _ hf => cell_fr (by assumption) hf id) ?_
                | refine q_loadB rfl rfl tabOk rfl rfl (by assumption) (by rfl) ?_
                | refine q_loadAggB rfl rfl tabOk rfl rfl (by assumption) (by rfl) ?_
                | refine q_arith rfl rfl rfl rfl rfl (by simp only [lowK, hiK]; omega) ?_
                | refine q_rem rfl rfl rfl rfl (by omega) (by omega) ?_
                | refine q_quo rfl rfl rfl rfl (by omega) (by omega) (by simp only [hiK]; omega) ?_
                | refine q_index rfl rfl tabOk rfl rfl rfl (by omega) (by omega) ?_
                | refine q_convB rfl rfl tabOk rfl rfl rfl rfl ?_
                | refine q_conv rfl rfl tabOk rfl rfl rfl (by simp only [lowK, hiK]; omega) ?_)
              refine q_indexAddr (len := l.length) (i := i) rfl rfl tabOk rfl rfl rfl (by omega) (by omega) ?_
              repeat (first
                | refine stepQF_ok tabOk (m := 400) rfl ?_
                | refine stepQF_ok tabOk (m := 16) rfl ?_
                | refine stepQF_ok tabOk (m := 3) rfl ?_
                | refine stepQF_ok tabOk (m := 0) rfl ?_
                | refine q_load rfl rfl tabOk rfl rfl (fun _ hf => cell_fr (by assumption) hf id) ?_
                | refine q_loadB rfl rfl tabOk rfl rfl (by assumption) (by rfl) ?_
                | refine q_loadAggB rfl rfl tabOk rfl rfl (by assumption) (by rfl) ?_
                | refine q_arith rfl rfl rfl rfl rfl (by simp only [lowK, hiK]; omega) ?_
                | refine q_rem rfl rfl rfl rfl (by omega) (by omega) ?_
                | refine q_quo rfl rfl rfl rfl (by omega) (by omega) (by simp only [hiK]; omega) ?_
                | refine q_index rfl rfl tabOk rfl rfl rfl (by omega) (by omega) ?_
                | refine q_convB rfl rfl tabOk rfl rfl rfl rfl ?_
                | refine q_conv rfl rfl tabOk rfl rfl rfl (by simp only [lowK, hiK]; omega) ?_)
              refine q_indexAddr (len := v.merges.length) (i := r) rfl rfl tabOk rfl rfl rfl (by omega) (by omega) ?_
              repeat (first
                | refine stepQF_ok tabOk (m := 400) rfl ?_
                | refine stepQF_ok tabOk (m := 16) rfl ?_
                | refine stepQF_ok tabOk (m := 3) rfl ?_
                | refine stepQF_ok tabOk (m := 0) rfl ?_
                | refine q_load rfl rfl tabOk rfl rfl (fun _ hf => cell_fr (by assumption) hf id) ?_
                | refine q_loadB rfl rfl tabOk rfl rfl (by assumption) (by rfl) ?_
                | refine q_loadAggB rfl rfl tabOk rfl rfl (by assumption) (by rfl) ?_
                | refine q_arith rfl rfl rfl rfl rfl (by simp only [lowK, hiK]; omega) ?_
                | refine q_rem rfl rfl rfl rfl (by omega) (by omega) ?_
                | refine q_quo rfl rfl rfl rfl (by omega) (by omega) (by simp only [hiK]; omega) ?_
                | refine q_index rfl rfl tabOk rfl rfl rfl (by omega) (by omega) ?_
                | refine q_convB rfl rfl tabOk rfl rfl rfl rfl ?_
                | refine q_conv rfl rfl tabOk rfl rfl rfl (by simp only [lowK, hiK]; omega) ?_)
              by_cases m1 : l.getD i 0 = (v.m r).1
              · rw [decide_eq_true m1]
                repeat (first
                  | refine stepQF_ok tabOk (m := 400) rfl ?_
                  | refine stepQF_ok tabOk (m := 16) rfl ?_
                  | refine stepQF_ok tabOk (m := 3) rfl ?_
                  | refine stepQF_ok tabOk (m := 0) rfl ?_
                  | refine q_load rfl rfl tabOk rfl rfl (fun _ hf => cell_fr (by assumption) hf id) ?_
                  | refine q_loadB rfl rfl tabOk rfl rfl (by assumption) (by rfl) ?_
                  | refine q_loadAggB rfl rfl tabOk rfl rfl (by assumption) (by rfl) ?_
                  | refine q_arith rfl rfl rfl rfl rfl (by simp only [lowK, hiK]; omega) ?_
                  | refine q_rem rfl rfl rfl rfl (by omega) (by omega) ?_
                  | refine q_quo rfl rfl rfl rfl (by omega) (by omega) (by simp only [hiK]; omega) ?_
                  | refine q_index rfl rfl tabOk rfl rfl rfl (by omega) (by omega) ?_
                  | refine q_convB rfl rfl tabOk rfl rfl rfl rfl ?_
                  | refine q_conv rfl rfl tabOk rfl rfl rfl (by simp only [lowK, hiK]; omega) ?_)
                refine q_indexAddr (len := l.length) (i := (i : Int) + 1) rfl rfl tabOk rfl rfl rfl (by omega) (by omega) ?_
                repeat (first
                  | refine stepQF_ok tabOk (m := 400) rfl ?_
                  | refine stepQF_ok tabOk (m := 16) rfl ?_
                  | refine stepQF_ok tabOk (m := 3) rfl ?_
                  | refine stepQF_ok tabOk (m := 0) rfl ?_
                  | refine q_load rfl rfl tabOk rfl rfl (fun _ hf => cell_fr (by assumption) hf id) ?_
                  | refine q_loadB rfl rfl tabOk rfl rfl (by assumption) (by rfl) ?_
                  | refine q_loadAggB rfl rfl tabOk rfl rfl (by assumption) (by rfl) ?_
                  | refine q_arith rfl rfl rfl rfl rfl (by simp only [lowK, hiK]; omega) ?_
                  | refine q_rem rfl rfl rfl rfl (by omega) (by omega) ?_
                  | refine q_quo rfl rfl rfl rfl (by omega) (by omega) (by simp only [hiK]; omega) ?_
                  | refine q_index rfl rfl tabOk rfl rfl rfl (by omega) (by omega) ?_
                  | refine q_convB rfl rfl tabOk rfl rfl rfl rfl ?_
                  | refine q_conv rfl rfl tabOk rfl rfl rfl (by simp only [lowK, hiK]; omega) ?_)
                refine q_indexAddr (len := v.merges.length) (i := r) rfl rfl tabOk rfl rfl rfl (by omega) (by omega) ?_
                repeat (first
                  | refine stepQF_ok tabOk (m := 400) rfl ?_
                  | refine stepQF_ok tabOk (m := 16) rfl ?_
                  | refine stepQF_ok tabOk (m := 3) rfl ?_
                  | refine stepQF_ok tabOk (m := 0) rfl ?_
                  | refine q_load rfl rfl tabOk rfl rfl (fun _ hf => cell_fr (by assumption) hf id) ?_
                  | refine q_loadB rfl rfl tabOk rfl rfl (by assumption) (by rfl) ?_
                  | refine q_loadAggB rfl rfl tabOk rfl rfl (by assumption) (by rfl) ?_
                  | refine q_arith rfl rfl rfl rfl rfl (by simp only [lowK, hiK]; omega) ?_
                  | refine q_rem rfl rfl rfl rfl (by omega) (by omega) ?_
                  | refine q_quo rfl rfl rfl rfl (by omega) (by omega) (by simp only [hiK]; omega) ?_
                  | refine q_index rfl rfl tabOk rfl rfl rfl (by omega) (by omega) ?_
                  | refine q_convB rfl rfl tabOk rfl rfl rfl rfl ?_
                  | refine q_conv rfl rfl tabOk rfl rfl rfl (by simp only [lowK, hiK]; omega) ?_)
                refine q_end fun w6 hf6 => ?_
                obtain ⟨k1, k2, k3⟩ := fin w6 hf6
                have hm36 := hm3 w6 hf6
                clear hf hB hO hC hx1 hx2 hcx hm1 hm2
                refine ev_condD rfl (fun m2 => ?_) (fun m2 => ?_)
                · have hmA : v.mAt l r i := ⟨by omega, m1, m2⟩
                  have hat := at_is hmA hnoI
                  repeat (first
                    | refine stepF_ok tabOk [] (m := 400) rfl ?_
                    | refine stepF_ok tabOk [] (m := 16) rfl ?_
                    | refine stepF_ok tabOk [] (m := 3) rfl ?_
                    | refine stepF_ok tabOk [] (m := 0) rfl ?_
                    | refine ev_load rfl rfl tabOk rfl rfl (by assumption) ?_
                    | refine ev_loadB rfl rfl tabOk rfl rfl (by assumption) (by rfl) ?_
                    | refine ev_loadAggB rfl rfl tabOk rfl rfl (by assumption) (by rfl) ?_
                    | refine ev_arith rfl rfl rfl rfl rfl (by simp only [lowK, hiK]; omega) ?_
                    | refine ev_rem rfl rfl rfl rfl (by omega) (by omega) ?_
                    | refine ev_quo rfl rfl rfl rfl (by omega) (by omega) (by simp only [hiK]; omega) ?_
                    | refine ev_index rfl rfl tabOk rfl rfl rfl (by omega) (by omega) ?_
                    | refine ev_indexA rfl rfl tabOk rfl rfl rfl (by omega) (by omega) rfl ?_
                    | refine ev_convB rfl rfl tabOk rfl rfl rfl rfl ?_
                    | refine ev_conv rfl rfl tabOk rfl rfl rfl (by simp only [lowK, hiK]; omega) ?_)
                  refine ev_draw mixed (by kernel_rfl) ?_
                  repeat (first
                    | refine stepQF_ok tabOk (m := 400) rfl ?_
                    | refine stepQF_ok tabOk (m := 16) rfl ?_
                    | refine stepQF_ok tabOk (m := 3) rfl ?_
                    | refine stepQF_ok tabOk (m := 0) rfl ?_
                    | refine q_load rfl rfl tabOk rfl rfl (fun _ hf => cell_fr (by assumption) hf id) ?_
                    | refine q_loadB rfl rfl tabOk rfl rfl (by assumption) (by rfl) ?_
                    | refine q_loadAggB rfl rfl tabOk rfl rfl (by assumption) (by rfl) ?_
                    | refine q_arith rfl rfl rfl rfl rfl (by simp only [lowK, hiK]; omega) ?_
                    | refine q_rem rfl rfl rfl rfl (by omega) (by omega) ?_
                    | refine q_quo rfl rfl rfl rfl (by omega) (by omega) (by simp only [hiK]; omega) ?_
                    | refine q_index rfl rfl tabOk rfl rfl rfl (by omega) (by omega) ?_
                    | refine q_convB rfl rfl tabOk rfl rfl rfl rfl ?_
                    | refine q_conv rfl rfl tabOk rfl rfl rfl (by simp only [lowK, hiK]; omega) ?_)
                  refine q_indexAddr (len := v.merges.length) (i := r) rfl rfl tabOk rfl rfl rfl (by omega) (by omega) ?_
                  repeat (first
                    | refine stepQF_ok tabOk (m := 400) rfl ?_
                    | refine stepQF_ok tabOk (m := 16) rfl ?_
                    | refine stepQF_ok tabOk (m := 3) rfl ?_
                    | refine stepQF_ok tabOk (m := 0) rfl ?_
                    | refine q_load rfl rfl tabOk rfl rfl (fun _ hf => cell_fr (by assumption) hf id) ?_
                    | refine q_loadB rfl rfl tabOk rfl rfl (by assumption) (by rfl) ?_
                    | refine q_loadAggB rfl rfl tabOk rfl rfl (by assumption) (by rfl) ?_
                    | refine q_arith rfl rfl rfl rfl rfl (by simp only [lowK, hiK]; omega) ?_
                    | refine q_rem rfl rfl rfl rfl (by omega) (by omega) ?_
                    | refine q_quo rfl rfl rfl rfl (by omega) (by omega) (by simp only [hiK]; omega) ?_
                    | refine q_index rfl rfl tabOk rfl rfl rfl (by omega) (by omega) ?_
                    | refine q_convB rfl rfl tabOk rfl rfl rfl rfl ?_
                    | refine q_conv rfl rfl tabOk rfl rfl rfl (by simp only [lowK, hiK]; omega) ?_)
                  refine q_end fun w7 hf7 => ?_
                  repeat (first
                    | refine stepF_ok tabOk [] (m := 400) rfl ?_
                    | refine stepF_ok tabOk [] (m := 16) rfl ?_
                    | refine stepF_ok tabOk [] (m := 3) rfl ?_
                    | refine stepF_ok tabOk [] (m := 0) rfl ?_
                    | refine ev_load rfl rfl tabOk rfl rfl (by assumption) ?_
                    | refine ev_loadB rfl rfl tabOk rfl rfl (by assumption) (by rfl) ?_
                    | refine ev_loadAggB rfl rfl tabOk rfl rfl (by assumption) (by rfl) ?_
                    | refine ev_arith rfl rfl rfl rfl rfl (by simp only [lowK, hiK]; omega) ?_
                    | refine ev_rem rfl rfl rfl rfl (by omega) (by omega) ?_
                    | refine ev_quo rfl rfl rfl rfl (by omega) (by omega) (by simp only [hiK]; omega) ?_
                    | refine ev_index rfl rfl tabOk rfl rfl rfl (by omega) (by omega) ?_
                    | refine ev_indexA rfl rfl tabOk rfl rfl rfl (by omega) (by omega) rfl ?_
                    | refine ev_convB rfl rfl tabOk rfl rfl rfl rfl ?_
                    | refine ev_conv rfl rfl tabOk rfl rfl rfl (by simp only [lowK, hiK]; omega) ?_)
                  exact ev_next (i + 1, true) (by simp only; omega) ⟨by simp only; omega, fun h => (by cases h), fun _ => ⟨by omega, by simp only; omega⟩, k1.tr hf7, k2.fr0 hf7, k3.fr0 hf7⟩ ⟨rfl, rfl, by rw [hat]; rfl, rfl, rfl, rfl, trivial⟩
                · repeat (first
                    | refine stepF_ok tabOk [] (m := 400) rfl ?_
                    | refine stepF_ok tabOk [] (m := 16) rfl ?_
                    | refine stepF_ok tabOk [] (m := 3) rfl ?_
                    | refine stepF_ok tabOk [] (m := 0) rfl ?_
                    | refine ev_load rfl rfl tabOk rfl rfl (by assumption) ?_
                    | refine ev_loadB rfl rfl tabOk rfl rfl (by assumption) (by rfl) ?_
                    | refine ev_loadAggB rfl rfl tabOk rfl rfl (by assumption) (by rfl) ?_
                    | refine ev_arith rfl rfl rfl rfl rfl (by simp only [lowK, hiK]; omega) ?_
                    | refine ev_rem rfl rfl rfl rfl (by omega) (by omega) ?_
                    | refine ev_quo rfl rfl rfl rfl (by omega) (by omega) (by simp only [hiK]; omega) ?_
                    | refine ev_index rfl rfl tabOk rfl rfl rfl (by omega) (by omega) ?_
                    | refine ev_indexA rfl rfl tabOk rfl rfl rfl (by omega) (by omega) rfl ?_
                    | refine ev_convB rfl rfl tabOk rfl rfl rfl rfl ?_
                    | refine ev_conv rfl rfl tabOk rfl rfl rfl (by simp only [lowK, hiK]; omega) ?_)
                  refine ev_next (i + 1, false) (by simp only; omega) ⟨by simp only; omega, fun _ j hj => ?_, fun h => (by cases h), k1, k2, k3⟩ ⟨rfl, rfl, rfl, rfl, rfl, rfl, trivial⟩
                  by_cases e : j = i
                  · subst e; exact fun h => m2 h.2.2
                  · exact hnoI j (by simp only at hj; omega)
              · rw [decide_eq_false m1]
                repeat (first
                  | refine stepQF_ok tabOk (m := 400) rfl ?_
                  | refine stepQF_ok tabOk (m := 16) rfl ?_
                  | refine stepQF_ok tabOk (m := 3) rfl ?_
                  | refine stepQF_ok tabOk (m := 0) rfl ?_
                  | refine q_load rfl rfl tabOk rfl rfl (fun _ hf => cell_fr (by assumption) hf id) ?_
                  | refine q_loadB rfl rfl tabOk rfl rfl (by assumption) (by rfl) ?_
                  | refine q_loadAggB rfl rfl tabOk rfl rfl (by assumption) (by rfl) ?_
                  | refine q_arith rfl rfl rfl rfl rfl (by simp only [lowK, hiK]; omega) ?_
                  | refine q_rem rfl rfl rfl rfl (by omega) (by omega) ?_
                  | refine q_quo rfl rfl rfl rfl (by omega) (by omega) (by simp only [hiK]; omega) ?_
                  | refine q_index rfl rfl tabOk rfl rfl rfl (by omega) (by omega) ?_
                  | refine q_convB rfl rfl tabOk rfl rfl rfl rfl ?_
                  | refine q_conv rfl rfl tabOk rfl rfl rfl (by simp only [lowK, hiK]; omega) ?_)
                refine q_end fun w6 hf6 => ?_
                obtain ⟨k1, k2, k3⟩ := fin w6 hf6
                repeat (first
                  | refine stepF_ok tabOk [] (m := 400) rfl ?_
                  | refine stepF_ok tabOk [] (m := 16) rfl ?_
                  | refine stepF_ok tabOk [] (m := 3) rfl ?_
                  | refine stepF_ok tabOk [] (m := 0) rfl ?_
                  | refine ev_load rfl rfl tabOk rfl rfl (by assumption) ?_
                  | refine ev_loadB rfl rfl tabOk rfl rfl (by assumption) (by rfl) ?_
                  | refine ev_loadAggB rfl rfl tabOk rfl rfl (by assumption) (by rfl) ?_
                  | refine ev_arith rfl rfl rfl rfl rfl (by simp only [lowK, hiK]; omega) ?_
                  | refine ev_rem rfl rfl rfl rfl (by omega) (by omega) ?_
                  | refine ev_quo rfl rfl rfl rfl (by omega) (by omega) (by simp only [hiK]; omega) ?_
                  | refine ev_index rfl rfl tabOk rfl rfl rfl (by omega) (by omega) ?_
                  | refine ev_indexA rfl rfl tabOk rfl rfl rfl (by omega) (by omega) rfl ?_
                  | refine ev_convB rfl rfl tabOk rfl rfl rfl rfl ?_
                  | refine ev_conv rfl rfl tabOk rfl rfl rfl (by simp only [lowK, hiK]; omega) ?_)
                refine ev_next (i + 1, false) (by simp only; omega) ⟨by simp only; omega, fun _ j hj => ?_, fun h => (by cases h), k1, k2, k3⟩ ⟨rfl, rfl, rfl, rfl, rfl, rfl, trivial⟩
                by_cases e : j = i
                · subst e; exact fun h => m1 h.2.1
                · exact hnoI j (by simp only at hj; omega)
            · have h2 : ¬ i + 1 < l.length := by simp only at h2; omega
              repeat (first
                | refine stepF_ok tabOk [] (m := 400) rfl ?_
                | refine stepF_ok tabOk [] (m := 16) rfl ?_
                | refine stepF_ok tabOk [] (m := 3) rfl ?_
                | refine stepF_ok tabOk [] (m := 0) rfl ?_
                | refine ev_load rfl rfl tabOk rfl rfl (by assumption) ?_
                | refine ev_loadB rfl rfl tabOk rfl rfl (by assumption) (by rfl) ?_
                | refine ev_loadAggB rfl rfl tabOk rfl rfl (by assumption) (by rfl) ?_
                | refine ev_arith rfl rfl rfl rfl rfl (by simp only [lowK, hiK]; omega) ?_
                | refine ev_rem rfl rfl rfl rfl (by omega) (by omega) ?_
                | refine ev_quo rfl rfl rfl rfl (by omega) (by omega) (by simp only [hiK]; omega) ?_
                | refine ev_index rfl rfl tabOk rfl rfl rfl (by omega) (by omega) ?_
                | refine ev_indexA rfl rfl tabOk rfl rfl rfl (by omega) (by omega) rfl ?_
                | refine ev_convB rfl rfl tabOk rfl rfl rfl rfl ?_
                | refine ev_conv rfl rfl tabOk rfl rfl rfl (by simp only [lowK, hiK]; omega) ?_)
              refine ev_next (r + 1, false) (by simp only; omega) ⟨by simp only; omega, fun _ j hj => ?_, fun h => (by cases h), hf, hB, hO⟩ ⟨rfl, rfl, rfl, rfl, rfl, trivial⟩
              by_cases e : j = r
              · subst e
                have := at_no (v := v) (l := l) (r := j) (fun x hx h => by
                  by_cases hxi : x < i
                  · exact hnoI x hxi h
                  · have := h.1; omega)
                omega
              · exact hno j (by simp only at hj; omega)
        · have hrn : r = v.merges.length := by simp only at hlt; omega
          subst hrn
          have hrk := rk_no hno
          repeat (first
            | refine stepF_ok tabOk [] (m := 400) rfl ?_
            | refine stepF_ok tabOk [] (m := 16) rfl ?_
            | refine stepF_ok tabOk [] (m := 3) rfl ?_
            | refine stepF_ok tabOk [] (m := 0) rfl ?_
            | refine ev_load rfl rfl tabOk rfl rfl (by assumption) ?_
            | refine ev_loadB rfl rfl tabOk rfl rfl (by assumption) (by rfl) ?_
            | refine ev_loadAggB rfl rfl tabOk rfl rfl (by assumption) (by rfl) ?_
            | refine ev_arith rfl rfl rfl rfl rfl (by simp only [lowK, hiK]; omega) ?_
            | refine ev_rem rfl rfl rfl rfl (by omega) (by omega) ?_
            | refine ev_quo rfl rfl rfl rfl (by omega) (by omega) (by simp only [hiK]; omega) ?_
            | refine ev_index rfl rfl tabOk rfl rfl rfl (by omega) (by omega) ?_
            | refine ev_indexA rfl rfl tabOk rfl rfl rfl (by omega) (by omega) rfl ?_
            | refine ev_convB rfl rfl tabOk rfl rfl rfl rfl ?_
            | refine ev_conv rfl rfl tabOk rfl rfl rfl (by simp only [lowK, hiK]; omega) ?_)
          exact ev_out () ⟨hf, hB, hO⟩ ⟨rfl, rfl, by rw [hrk, if_neg (Nat.lt_irrefl _)]; rfl, by rw [hrk, if_neg (Nat.lt_irrefl _)]; rfl, trivial⟩
    · rintro _ w4 ⟨hf4, hB4, hO4⟩
      by_cases hrk : v.rk l < v.merges.length
      · rw [if_pos hrk, if_pos hrk]
        have hat := at_spec (rk_spec hrk)
        have h1 := hat.1
        have hnl := nxt_len hrk
        have hred := red_yes hrk
        have hnx : v.nxt l = l.take (v.at l (v.rk l)) ++ [(v.m (v.rk l)).2.2] ++ l.drop (v.at l (v.rk l) + 2) := rfl
        obtain ⟨i, hi⟩ : ∃ i, i = v.at l (v.rk l) := ⟨_, rfl⟩
        rw [← hi] at hnx h1 ⊢
        obtain ⟨ga, cap, cs, ea, hG, hcs, hcl, hct, hcm⟩ := OI.two hO4 (by omega)
        subst ea
        have hC := Cs.of_blk hG
        have hga : p < ga := hg _ rfl
        have hC1 : ∀ w', Fr no w4 w' → Cs w' (some ⟨ga, 0, none⟩) ((l.take i).map i64) := fun w' hf' => (by
          have := (hC.fr0 hf').take i
          have e : cs.take i = (l.take i).map i64 := by
            have := congrArg (List.take i) hct
            rw [List.take_take, Nat.min_eq_left (by omega)] at this
            rw [this, List.map_take]
          rw [← e]; exact this)
        have hC2 : ∀ w', Fr no w4 w' → Cs w' (cutA 1 (i + 2) cap (some ⟨ga, 0, none⟩)) ((l.drop (i + 2)).map i64) := fun w' hf' => (by
          by_cases h2 : i + 2 < l.length
          · rw [cutI (by omega)]
            have := ((hC.fr0 hf').part (ys := (l.drop (i + 2)).map i64) (i + 2) (fun j u hj => ?_))
            · simpa using this
            · have hjl := (List.getElem?_eq_some_iff.1 hj).1
              rw [List.length_map, List.length_drop] at hjl
              have e4 : (cs.take l.length)[i + 2 + j]? = (l.map i64)[i + 2 + j]? := by rw [hct]
              rw [List.getElem?_take, if_pos (by omega)] at e4
              rw [e4, ← hj, List.map_drop, List.getElem?_drop]
          · rw [List.drop_eq_nil_of_le (by omega)]; exact Cs.nil _ _)
        repeat (first
          | refine stepF_ok tabOk [] (m := 400) rfl ?_
          | refine stepF_ok tabOk [] (m := 16) rfl ?_
          | refine stepF_ok tabOk [] (m := 3) rfl ?_
          | refine stepF_ok tabOk [] (m := 0) rfl ?_
          | refine ev_load rfl rfl tabOk rfl rfl (by assumption) ?_
          | refine ev_loadB rfl rfl tabOk rfl rfl (by assumption) (by rfl) ?_
          | refine ev_loadAggB rfl rfl tabOk rfl rfl (by assumption) (by rfl) ?_
          | refine ev_arith rfl rfl rfl rfl rfl (by simp only [lowK, hiK]; omega) ?_
          | refine ev_rem rfl rfl rfl rfl (by omega) (by omega) ?_
          | refine ev_quo rfl rfl rfl rfl (by omega) (by omega) (by simp only [hiK]; omega) ?_
          | refine ev_index rfl rfl tabOk rfl rfl rfl (by omega) (by omega) ?_
          | refine ev_indexA rfl rfl tabOk rfl rfl rfl (by omega) (by omega) rfl ?_
          | refine ev_convB rfl rfl tabOk rfl rfl rfl rfl ?_
          | refine ev_conv rfl rfl tabOk rfl rfl rfl (by simp only [lowK, hiK]; omega) ?_)
        refine ev_buildSlice tabOk rfl rfl rfl inf3 rfl rfl rfl (by simp) rfl (fun q5 w5 hq5 hb5 hf5 => ?_)
        have ho5 := own_of_blk (m := 0) (sz := 1) hb5 rfl (by omega)
        repeat (first
          | refine stepF_ok tabOk [] (m := 400) rfl ?_
          | refine stepF_ok tabOk [] (m := 16) rfl ?_
          | refine stepF_ok tabOk [] (m := 3) rfl ?_
          | refine stepF_ok tabOk [] (m := 0) rfl ?_
          | refine ev_load rfl rfl tabOk rfl rfl (by assumption) ?_
          | refine ev_loadB rfl rfl tabOk rfl rfl (by assumption) (by rfl) ?_
          | refine ev_loadAggB rfl rfl tabOk rfl rfl (by assumption) (by rfl) ?_
          | refine ev_arith rfl rfl rfl rfl rfl (by simp only [lowK, hiK]; omega) ?_
          | refine ev_rem rfl rfl rfl rfl (by omega) (by omega) ?_
          | refine ev_quo rfl rfl rfl rfl (by omega) (by omega) (by simp only [hiK]; omega) ?_
          | refine ev_index rfl rfl tabOk rfl rfl rfl (by omega) (by omega) ?_
          | refine ev_indexA rfl rfl tabOk rfl rfl rfl (by omega) (by omega) rfl ?_
          | refine ev_convB rfl rfl tabOk rfl rfl rfl rfl ?_
          | refine ev_conv rfl rfl tabOk rfl rfl rfl (by simp only [lowK, hiK]; omega) ?_)
        refine ev_slice (A := some ⟨ga, 0, none⟩) (len := l.length) (cap := cap) (i := 0) (j := (i : Int)) rfl rfl tabOk rfl rfl rfl rfl (by omega) (by omega) (by omega) ?_
        rw [cut0, show ((i : Int).toNat - (0 : Int).toNat) = i by omega, show cap - (0 : Int).toNat = cap by omega]
        refine ev_append (z := i64 0) (b := 8) (xs := []) (A := some ⟨ga, 0, none⟩) (m := i) (c := cap) (news := (l.take i).map i64) tabOk rfl rfl rfl inf3 rfl (by omega) rfl rfl ho5 (hC1 _ hf5) (by simp; omega) ints_one (by omega) (fun a6 w6 ho6 hf6 hn6 => ?_)
        have hn6 := NB.of hn6
        rw [Nat.zero_add, List.nil_append] at ho6
        have hbig : ∀ g, a6.ownBlock = some g → w4.heap.size ≤ g := fun g hg' => by
          rcases hn6 g hg' with h | h
          · simp only [Value.ownBlock, Option.some.injEq] at h; omega
          · have := hf5.size; omega
        have hf46 : Fr no w4 w6 := hf5.trans hf6 (fun b hb e => by simp only [Value.ownBlock, Option.some.injEq] at e; omega)
        clear hf5 hf6 ho5 hb5
        repeat (first
          | refine stepF_ok tabOk [] (m := 400) rfl ?_
          | refine stepF_ok tabOk [] (m := 16) rfl ?_
          | refine stepF_ok tabOk [] (m := 3) rfl ?_
          | refine stepF_ok tabOk [] (m := 0) rfl ?_
          | refine ev_load rfl rfl tabOk rfl rfl (by assumption) ?_
          | refine ev_loadB rfl rfl tabOk rfl rfl (by assumption) (by rfl) ?_
          | refine ev_loadAggB rfl rfl tabOk rfl rfl (by assumption) (by rfl) ?_
          | refine ev_arith rfl rfl rfl rfl rfl (by simp only [lowK, hiK]; omega) ?_
          | refine ev_rem rfl rfl rfl rfl (by omega) (by omega) ?_
          | refine ev_quo rfl rfl rfl rfl (by omega) (by omega) (by simp only [hiK]; omega) ?_
          | refine ev_index rfl rfl tabOk rfl rfl rfl (by omega) (by omega) ?_
          | refine ev_indexA rfl rfl tabOk rfl rfl rfl (by omega) (by omega) rfl ?_
          | refine ev_convB rfl rfl tabOk rfl rfl rfl rfl ?_
          | refine ev_conv rfl rfl tabOk rfl rfl rfl (by simp only [lowK, hiK]; omega) ?_)
        refine ev_append1 tabOk rfl rfl (fun _ => rfl) rfl rfl inf3 rfl (by omega) (fun _ => rfl) rfl rfl (by simp [Value.cells]) (by simp [flatV, Value.cells, Value.oneCell']) rfl ho6 (by omega) (fun a7 w7 q7 ho7 hf7 hn7 => ?_)
        have hbig7 : ∀ g, a7.ownBlock = some g → w4.heap.size ≤ g := fun g hg' => by
          rcases hn7 g hg' with h | h
          · exact hbig g h
          · have := hf46.size; omega
        have hf47 : Fr no w4 w7 := hf46.trans hf7 (fun b hb e => by have := hbig b e; omega)
        clear hf7 ho6 hf46
        repeat (first
          | refine stepF_ok tabOk [] (m := 400) rfl ?_
          | refine stepF_ok tabOk [] (m := 16) rfl ?_
          | refine stepF_ok tabOk [] (m := 3) rfl ?_
          | refine stepF_ok tabOk [] (m := 0) rfl ?_
          | refine ev_load rfl rfl tabOk rfl rfl (by assumption) ?_
          | refine ev_loadB rfl rfl tabOk rfl rfl (by assumption) (by rfl) ?_
          | refine ev_loadAggB rfl rfl tabOk rfl rfl (by assumption) (by rfl) ?_
          | refine ev_arith rfl rfl rfl rfl rfl (by simp only [lowK, hiK]; omega) ?_
          | refine ev_rem rfl rfl rfl rfl (by omega) (by omega) ?_
          | refine ev_quo rfl rfl rfl rfl (by omega) (by omega) (by simp only [hiK]; omega) ?_
          | refine ev_index rfl rfl tabOk rfl rfl rfl (by omega) (by omega) ?_
          | refine ev_indexA rfl rfl tabOk rfl rfl rfl (by omega) (by omega) rfl ?_
          | refine ev_convB rfl rfl tabOk rfl rfl rfl rfl ?_
          | refine ev_conv rfl rfl tabOk rfl rfl rfl (by simp only [lowK, hiK]; omega) ?_)
        refine ev_slice (A := some ⟨ga, 0, none⟩) (len := l.length) (cap := cap) (i := (i : Int) + 2) (j := (l.length : Int)) rfl rfl tabOk rfl rfl rfl rfl (by omega) (by omega) (by omega) ?_
        rw [show ((i : Int) + 2).toNat = i + 2 by omega, show (l.length : Int).toNat - (i + 2) = l.length - (i + 2) by omega]
        refine ev_append (z := i64 0) (b := 8) (m := l.length - (i + 2)) (c := cap - (i + 2)) (news := (l.drop (i + 2)).map i64) tabOk rfl rfl rfl inf3 rfl (by omega) rfl rfl ho7 (hC2 _ hf47) (by simp) ints_one (by omega) (fun a8 w8 ho8 hf8 hn8 => ?_)
        have hn8 := NB.of hn8
        have hO8 : OI w8 a8 (v.nxt l) := by
          rw [hnx]
          have e : (l.take i).map i64 ++ flatV [i64 (v.m (v.rk l)).2.2] ++ (l.drop (i + 2)).map i64 = (l.take i ++ [(v.m (v.rk l)).2.2] ++ l.drop (i + 2)).map i64 := by simp [flatV, Value.cells]
          rw [e] at ho8
          unfold OI
          rw [show (l.take i ++ [(v.m (v.rk l)).2.2] ++ l.drop (i + 2)).length = i + 1 + (l.length - (i + 2)) by simp; omega]
          exact ho8
        have hf48 : Fr no w4 w8 := hf47.trans hf8 (fun b hb e => by have := hbig7 b e; omega)
        repeat (first
          | refine stepF_ok tabOk [] (m := 400) rfl ?_
          | refine stepF_ok tabOk [] (m := 16) rfl ?_
          | refine stepF_ok tabOk [] (m := 3) rfl ?_
          | refine stepF_ok tabOk [] (m := 0) rfl ?_
          | refine ev_load rfl rfl tabOk rfl rfl (by assumption) ?_
          | refine ev_loadB rfl rfl tabOk rfl rfl (by assumption) (by rfl) ?_
          | refine ev_loadAggB rfl rfl tabOk rfl rfl (by assumption) (by rfl) ?_
          | refine ev_arith rfl rfl rfl rfl rfl (by simp only [lowK, hiK]; omega) ?_
          | refine ev_rem rfl rfl rfl rfl (by omega) (by omega) ?_
          | refine ev_quo rfl rfl rfl rfl (by omega) (by omega) (by simp only [hiK]; omega) ?_
          | refine ev_index rfl rfl tabOk rfl rfl rfl (by omega) (by omega) ?_
          | refine ev_indexA rfl rfl tabOk rfl rfl rfl (by omega) (by omega) rfl ?_
          | refine ev_convB rfl rfl tabOk rfl rfl rfl rfl ?_
          | refine ev_conv rfl rfl tabOk rfl rfl rfl (by simp only [lowK, hiK]; omega) ?_)
        refine ev_next (v.nxt l, a8) (by simp only; omega) ⟨by rw [he, hred], by simp only; omega, hf4.tr hf48, hB4.fr0 hf48, hO8, fun g hg' => ?_⟩ ⟨rfl, rfl, trivial⟩
        have hp4 := hB4.lt
        rcases hn8 g hg' with h | h
        · have := hbig7 g h; omega
        · have := hf47.size; omega
      · rw [if_neg hrk, if_neg hrk]
        have hred := red_no hrk
        repeat (first
          | refine stepF_ok tabOk [] (m := 400) rfl ?_
          | refine stepF_ok tabOk [] (m := 16) rfl ?_
          | refine stepF_ok tabOk [] (m := 3) rfl ?_
          | refine stepF_ok tabOk [] (m := 0) rfl ?_
          | refine ev_load rfl rfl tabOk rfl rfl (by assumption) ?_
          | refine ev_loadB rfl rfl tabOk rfl rfl (by assumption) (by rfl) ?_
          | refine ev_loadAggB rfl rfl tabOk rfl rfl (by assumption) (by rfl) ?_
          | refine ev_arith rfl rfl rfl rfl rfl (by simp only [lowK, hiK]; omega) ?_
          | refine ev_rem rfl rfl rfl rfl (by omega) (by omega) ?_
          | refine ev_quo rfl rfl rfl rfl (by omega) (by omega) (by simp only [hiK]; omega) ?_
          | refine ev_index rfl rfl tabOk rfl rfl rfl (by omega) (by omega) ?_
          | refine ev_indexA rfl rfl tabOk rfl rfl rfl (by omega) (by omega) rfl ?_
          | refine ev_convB rfl rfl tabOk rfl rfl rfl rfl ?_
          | refine ev_conv rfl rfl tabOk rfl rfl rfl (by simp only [lowK, hiK]; omega) ?_)
        refine retG tabOk (.inr rfl) rfl [a, i64 0, i64 0] ⟨rfl, rfl, rfl, trivial⟩ ⟨⟨a, by unfold encR; rw [he]; rfl, by rw [he, hred]; exact hO4, fun g hg' => by have := hg g hg'; omega⟩, hf4⟩
end Go.Wk.Ytjdfdahdobikmaa
