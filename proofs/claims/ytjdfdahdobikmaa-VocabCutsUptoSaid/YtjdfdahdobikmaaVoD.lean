/-
  The walks of chapter 13: a vocabulary as the document has it; the same lists, the same vocabularies.
-/
import Derived.Test.YtjdfdahdobikmaaVoC
set_option linter.unusedVariables false
namespace Go.Wk.Ytjdfdahdobikmaa
open Go Go.Wk Go.Proofs

theorem mcs_take {l : List Mrg} {k : Nat} (h : k < l.length) : mcs (l.take (k + 1)) = mcs (l.take k) ++ flatV [mrgV (l.getD k (0, 0, 0))] := by
  unfold mcs
  rw [List.take_add_one, List.getElem?_eq_getElem h, List.getD_eq_getElem?_getD, List.getElem?_eq_getElem h, List.flatMap_append]
  simp [flatV, mrg1, Value.cells]

set_option maxHeartbeats 1000000 in
theorem wGiven (A : Option Addr) (c : Nat) (B : Option Addr) (d : Nat) (v : VV) (w : World) (hV : Vo w A B v) (hS : VS v) :
    CallsF Try.prog 12 [vv A c B d v] w fun r w' => (∃ A' c' B' d', r = vv A' c' B' d' v ∧ Vo w' A' B' v) ∧ Fr no w w' := by
  have hn := hS.merges
  have hnt := hS.texts
  refine callsF Try.func12 rfl rfl (by decide) rfl ?_
  refine stepF_ok tabOk [] (m := 3) rfl ?_
  refine ev_box rfl rfl rfl (fun p wb hp hB hfb => ?_)
  have hB : Blk wb p [.slice A v.texts.length c, .slice B v.merges.length d] 25 := hB
  have hzb := hfb.size
  have hpl := hB.lt
  repeat (first
    | refine stepF_ok tabOk [] (m := 400) rfl ?_
    | refine stepF_ok tabOk [] (m := 16) rfl ?_
    | refine stepF_ok tabOk [] (m := 3) rfl ?_
    | refine stepF_ok tabOk [] (m := 0) rfl ?_
    | refine ev_load rfl rfl tabOk rfl rfl (by assumption) ?_
    | refine ev_loadB rfl rfl tabOk rfl rfl (by assumption) (by rfl) ?_
    | refine ev_loadAggB rfl rfl tabOk rfl rfl (by assumption) (by rfl) ?_
    | refine ev_arith rfl rfl rfl rfl rfl (by simp only [lowK, hiK]; omega) ?_
    | refine ev_rem rfl rfl rfl rfl (by omega) (by omega) ?_
    | refine ev_quo rfl rfl rfl rfl (by omega) (by omega) (by simp only [hiK]; omega) ?_
    | refine ev_index rfl rfl tabOk rfl rfl rfl (by omega) (by omega) ?_
    | refine ev_indexA rfl rfl tabOk rfl rfl rfl (by omega) (by omega) rfl ?_
    | refine ev_convB rfl rfl tabOk rfl rfl rfl rfl ?_
    | refine ev_conv rfl rfl tabOk rfl rfl rfl (by simp only [lowK, hiK]; omega) ?_)
  refine ev_alloc rfl rfl inf28 (fun p2 w1 hp2 hQ2 hf1 => ?_)
  have hf01 := hfb.tr hf1
  have hB1 := hB.fr0 hf1
  have hpl2 := hQ2.lt
  clear hB hfb hf1
  repeat (first
    | refine stepF_ok tabOk [] (m := 400) rfl ?_
    | refine stepF_ok tabOk [] (m := 16) rfl ?_
    | refine stepF_ok tabOk [] (m := 3) rfl ?_
    | refine stepF_ok tabOk [] (m := 0) rfl ?_
    | refine ev_load rfl rfl tabOk rfl rfl (by assumption) ?_
    | refine ev_loadB rfl rfl tabOk rfl rfl (by assumption) (by rfl) ?_
    | refine ev_loadAggB rfl rfl tabOk rfl rfl (by assumption) (by rfl) ?_
    | refine ev_arith rfl rfl rfl rfl rfl (by simp only [lowK, hiK]; omega) ?_
    | refine ev_rem rfl rfl rfl rfl (by omega) (by omega) ?_
    | refine ev_quo rfl rfl rfl rfl (by omega) (by omega) (by simp only [hiK]; omega) ?_
    | refine ev_index rfl rfl tabOk rfl rfl rfl (by omega) (by omega) ?_
    | refine ev_indexA rfl rfl tabOk rfl rfl rfl (by omega) (by omega) rfl ?_
    | refine ev_convB rfl rfl tabOk rfl rfl rfl rfl ?_
    | refine ev_conv rfl rfl tabOk rfl rfl rfl (by simp only [lowK, hiK]; omega) ?_)
  refine ev_buildSlice tabOk rfl rfl rfl inf9 rfl rfl rfl (by simp) rfl (fun q w2 hq hb2 hf2 => ?_)
  have ho2 := own_of_blk (m := 0) (sz := 1) hb2 rfl (by omega)
  have hB2 := hB1.fr0 hf2
  have hf02 := hf01.tr hf2
  have hz2 := hf2.size
  have hQ22 := hQ2.fr0 hf2
  clear hB1 hf01 hb2 hf2
  repeat (first
    | refine stepF_ok tabOk [] (m := 400) rfl ?_
    | refine stepF_ok tabOk [] (m := 16) rfl ?_
    | refine stepF_ok tabOk [] (m := 3) rfl ?_
    | refine stepF_ok tabOk [] (m := 0) rfl ?_
    | refine ev_load rfl rfl tabOk rfl rfl (by assumption) ?_
    | refine ev_loadB rfl rfl tabOk rfl rfl (by assumption) (by rfl) ?_
    | refine ev_loadAggB rfl rfl tabOk rfl rfl (by assumption) (by rfl) ?_
    | refine ev_arith rfl rfl rfl rfl rfl (by simp only [lowK, hiK]; omega) ?_
    | refine ev_rem rfl rfl rfl rfl (by omega) (by omega) ?_
    | refine ev_quo rfl rfl rfl rfl (by omega) (by omega) (by simp only [hiK]; omega) ?_
    | refine ev_index rfl rfl tabOk rfl rfl rfl (by omega) (by omega) ?_
    | refine ev_indexA rfl rfl tabOk rfl rfl rfl (by omega) (by omega) rfl ?_
    | refine ev_convB rfl rfl tabOk rfl rfl rfl rfl ?_
    | refine ev_conv rfl rfl tabOk rfl rfl rfl (by simp only [lowK, hiK]; omega) ?_)
  refine ev_append (z := .string (sOf [])) (b := 16) (xs := []) (A := A) (m := v.texts.length) (c := c) (news := v.texts.map sv) tabOk rfl rfl rfl inf9 rfl (by omega) rfl rfl ho2 (hV.fr0 hf02).1 (by simp) (by
    intro u hu
    obtain ⟨x, _, rfl⟩ := List.mem_map.1 hu
    rfl) (by omega) (fun v3 w3 ho3 hf3 hn3 => ?_)
  have hn3 := NB.of hn3
  have hf03 : Fr no w w3 := hf02.trans hf3 (fun b hb e => by simp only [Value.ownBlock, Option.some.injEq] at e; omega)
  have hB3 := hB2.fr hf3 (fun e => by simp only [Value.ownBlock, Option.some.injEq] at e; omega)
  have hQ23 := hQ22.fr hf3 (fun e => by simp only [Value.ownBlock, Option.some.injEq] at e; omega)
  have hg3 : ∀ g, v3.ownBlock = some g → p2 < g := fun g hg => by
    rcases hn3 g hg with h | h
    · simp only [Value.ownBlock, Option.some.injEq] at h; omega
    · omega
  rw [Nat.zero_add, List.nil_append] at ho3
  obtain ⟨A', c', rfl, hC3, hA3⟩ := ho3.slice
  have hz3 := hf3.size
  clear hB2 hf02 hf3 hQ22 ho2
  repeat (first
    | refine stepF_ok tabOk [] (m := 400) rfl ?_
    | refine stepF_ok tabOk [] (m := 16) rfl ?_
    | refine stepF_ok tabOk [] (m := 3) rfl ?_
    | refine stepF_ok tabOk [] (m := 0) rfl ?_
    | refine ev_load rfl rfl tabOk rfl rfl (by assumption) ?_
    | refine ev_loadB rfl rfl tabOk rfl rfl (by assumption) (by rfl) ?_
    | refine ev_loadAggB rfl rfl tabOk rfl rfl (by assumption) (by rfl) ?_
    | refine ev_arith rfl rfl rfl rfl rfl (by simp only [lowK, hiK]; omega) ?_
    | refine ev_rem rfl rfl rfl rfl (by omega) (by omega) ?_
    | refine ev_quo rfl rfl rfl rfl (by omega) (by omega) (by simp only [hiK]; omega) ?_
    | refine ev_index rfl rfl tabOk rfl rfl rfl (by omega) (by omega) ?_
    | refine ev_indexA rfl rfl tabOk rfl rfl rfl (by omega) (by omega) rfl ?_
    | refine ev_convB rfl rfl tabOk rfl rfl rfl rfl ?_
    | refine ev_conv rfl rfl tabOk rfl rfl rfl (by simp only [lowK, hiK]; omega) ?_)
  refine ev_build rfl rfl (v := .agg #[.slice A' v.texts.length c', .slice none 0 0]) rfl (fun w => by kernel_rfl) ?_
  refine ev_alloc rfl rfl inf28 (fun p3 w4 hp3 hQ4 hf4 => ?_)
  refine ev_storeAgg tabOk rfl rfl rfl rfl rfl rfl hQ4 rfl (fun w5 hQ5 hf5 => ?_)
  have hf35 : Fr no w3 w5 := old hf4 (by omega) hf5
  have hB5 := hB3.fr0 hf35
  have hQ25 := hQ23.fr0 hf35
  have hC5 := hC3.fr0 hf35
  have hA5 : ∀ a, A' = some a → p2 < a.block ∧ a.block < p3 := fun a ha => by
    have h1 := (hA3 a ha).1
    exact ⟨hg3 _ h1, Nat.lt_of_lt_of_le (ho3.lt h1) hp3⟩
  have hf05 := hf03.tr hf35
  have hz5 := hf35.size
  have hzp : p3 < w5.heap.size := hQ5.lt
  clear hB3 hf03 hf4 hf5 hQ4 hQ23 hC3 ho3 hA3 hg3 hn3 hf35
  repeat (first
    | refine stepF_ok tabOk [] (m := 400) rfl ?_
    | refine stepF_ok tabOk [] (m := 16) rfl ?_
    | refine stepF_ok tabOk [] (m := 3) rfl ?_
    | refine stepF_ok tabOk [] (m := 0) rfl ?_
    | refine ev_load rfl rfl tabOk rfl rfl (by assumption) ?_
    | refine ev_loadB rfl rfl tabOk rfl rfl (by assumption) (by rfl) ?_
    | refine ev_loadAggB rfl rfl tabOk rfl rfl (by assumption) (by rfl) ?_
    | refine ev_arith rfl rfl rfl rfl rfl (by simp only [lowK, hiK]; omega) ?_
    | refine ev_rem rfl rfl rfl rfl (by omega) (by omega) ?_
    | refine ev_quo rfl rfl rfl rfl (by omega) (by omega) (by simp only [hiK]; omega) ?_
    | refine ev_index rfl rfl tabOk rfl rfl rfl (by omega) (by omega) ?_
    | refine ev_indexA rfl rfl tabOk rfl rfl rfl (by omega) (by omega) rfl ?_
    | refine ev_convB rfl rfl tabOk rfl rfl rfl rfl ?_
    | refine ev_conv rfl rfl tabOk rfl rfl rfl (by simp only [lowK, hiK]; omega) ?_)
  refine ev_loop (α := Nat × Value) (fun y => [(1, .pointer (some ⟨p, 0, none⟩)), (2, .pointer (some ⟨p2, 0, none⟩)), (3, .pointer (some ⟨p3, 0, none⟩)), (4, i64 y.1)])
    (fun y w' => y.1 ≤ v.merges.length ∧ Fr no w w' ∧ Blk w' p [.slice A v.texts.length c, .slice B v.merges.length d] 25 ∧ (∃ cs, cs.length = 2 ∧ Blk w' p2 cs 28) ∧ Blk w' p3 [.slice A' v.texts.length c', y.2] 28 ∧
      Cs w' A' (v.texts.map sv) ∧ Own w' 58 3 y.2 y.1 (mcs (v.merges.take y.1)) ∧ (∀ g, y.2.ownBlock = some g → p3 < g) ∧ p3 < w'.heap.size) (fun y => v.merges.length - y.1) (0, .slice none 0 0) ⟨rfl, rfl, rfl, rfl, trivial⟩
    ⟨Nat.zero_le _, hf05, hB5, ⟨_, rfl, hQ25⟩, hQ5, hC5, Own.nil _ _ _, (fun g hg => by cases hg), hzp⟩ ?_
  clear hf05 hB5 hQ25 hQ5 hC5 hz5 hzp hQ2
  rintro ⟨k, u⟩ w6 ⟨hk, hf, hB, ⟨cs2, hcs2, hQ2⟩, hQ, hC, hO, hg, hz⟩
  simp only at hk hQ hO hg
  repeat (first
    | refine stepF_ok tabOk [] (m := 400) rfl ?_
    | refine stepF_ok tabOk [] (m := 16) rfl ?_
    | refine stepF_ok tabOk [] (m := 3) rfl ?_
    | refine stepF_ok tabOk [] (m := 0) rfl ?_
    | refine ev_load rfl rfl tabOk rfl rfl (by assumption) ?_
    | refine ev_loadB rfl rfl tabOk rfl rfl (by assumption) (by rfl) ?_
    | refine ev_loadAggB rfl rfl tabOk rfl rfl (by assumption) (by rfl) ?_
    | refine ev_arith rfl rfl rfl rfl rfl (by simp only [lowK, hiK]; omega) ?_
    | refine ev_rem rfl rfl rfl rfl (by omega) (by omega) ?_
    | refine ev_quo rfl rfl rfl rfl (by omega) (by omega) (by simp only [hiK]; omega) ?_
    | refine ev_index rfl rfl tabOk rfl rfl rfl (by omega) (by omega) ?_
    | refine ev_indexA rfl rfl tabOk rfl rfl rfl (by omega) (by omega) rfl ?_
    | refine ev_convB rfl rfl tabOk rfl rfl rfl rfl ?_
    | refine ev_conv rfl rfl tabOk rfl rfl rfl (by simp only [lowK, hiK]; omega) ?_)
  refine ev_condD rfl (fun hlt => ?_) (fun hlt => ?_)
  · simp only at hlt
    have hk1 : k < v.merges.length := by omega
    obtain ⟨g, o, e1, hcx⟩ := mrgs_at (hV.fr0 hf).2 hk1
    subst e1
    have hcx : Cs w6 (some ⟨g, o + (k : Int).toNat * 3, none⟩) (mrg1 (v.m k)) := hcx
    repeat (first
      | refine stepF_ok tabOk [] (m := 400) rfl ?_
      | refine stepF_ok tabOk [] (m := 16) rfl ?_
      | refine stepF_ok tabOk [] (m := 3) rfl ?_
      | refine stepF_ok tabOk [] (m := 0) rfl ?_
      | refine ev_load rfl rfl tabOk rfl rfl (by assumption) ?_
      | refine ev_loadB rfl rfl tabOk rfl rfl (by assumption) (by rfl) ?_
      | refine ev_loadAggB rfl rfl tabOk rfl rfl (by assumption) (by rfl) ?_
      | refine ev_arith rfl rfl rfl rfl rfl (by simp only [lowK, hiK]; omega) ?_
      | refine ev_rem rfl rfl rfl rfl (by omega) (by omega) ?_
      | refine ev_quo rfl rfl rfl rfl (by omega) (by omega) (by simp only [hiK]; omega) ?_
      | refine ev_index rfl rfl tabOk rfl rfl rfl (by omega) (by omega) ?_
      | refine ev_indexA rfl rfl tabOk rfl rfl rfl (by omega) (by omega) rfl ?_
      | refine ev_convB rfl rfl tabOk rfl rfl rfl rfl ?_
      | refine ev_conv rfl rfl tabOk rfl rfl rfl (by simp only [lowK, hiK]; omega) ?_)
    refine ev_indexAddr (len := v.merges.length) (i := k) rfl rfl tabOk rfl rfl rfl (by omega) (by omega) ?_
    refine ev_loadAgg rfl rfl tabOk rfl rfl rfl hcx ?_
    refine ev_alloc rfl rfl inf51 (fun s w7 hs hS7 hf7 => ?_)
    refine ev_storeAgg tabOk rfl rfl rfl rfl rfl rfl hS7 rfl (fun w8 hS8 hf8 => ?_)
    have hS8 : Blk w8 s [i64 (v.m k).1, i64 (v.m k).2.1, i64 (v.m k).2.2] 51 := hS8
    have hf68 : Fr no w6 w8 := old hf7 (by omega) hf8
    have hB8 := hB.fr0 hf68
    have hQ28 := hQ2.fr0 hf68
    have hQ8 := hQ.fr0 hf68
    have hC8 := hC.fr0 hf68
    have hO8 := hO.fr0 hf68
    have hf08 := hf.tr hf68
    have hz8 := hf68.size
    clear hS7 hf7 hf8 hcx hB hQ2 hQ hC hO hf hf68
    repeat (first
      | refine stepF_ok tabOk [] (m := 400) rfl ?_
      | refine stepF_ok tabOk [] (m := 16) rfl ?_
      | refine stepF_ok tabOk [] (m := 3) rfl ?_
      | refine stepF_ok tabOk [] (m := 0) rfl ?_
      | refine ev_load rfl rfl tabOk rfl rfl (by assumption) ?_
      | refine ev_loadB rfl rfl tabOk rfl rfl (by assumption) (by rfl) ?_
      | refine ev_loadAggB rfl rfl tabOk rfl rfl (by assumption) (by rfl) ?_
      | refine ev_arith rfl rfl rfl rfl rfl (by simp only [lowK, hiK]; omega) ?_
      | refine ev_rem rfl rfl rfl rfl (by omega) (by omega) ?_
      | refine ev_quo rfl rfl rfl rfl (by omega) (by omega) (by simp only [hiK]; omega) ?_
      | refine ev_index rfl rfl tabOk rfl rfl rfl (by omega) (by omega) ?_
      | refine ev_indexA rfl rfl tabOk rfl rfl rfl (by omega) (by omega) rfl ?_
      | refine ev_convB rfl rfl tabOk rfl rfl rfl rfl ?_
      | refine ev_conv rfl rfl tabOk rfl rfl rfl (by simp only [lowK, hiK]; omega) ?_)
    refine ev_build rfl rfl (v := mrgV (v.m k)) rfl (fun w => by kernel_rfl) ?_
    refine ev_append1 (z := .agg #[i64 0, i64 0, i64 0]) tabOk rfl rfl (fun _ => rfl) rfl rfl inf58 rfl (by omega) (fun _ => rfl) rfl rfl (by simp [Value.cells]) (by simp [flatV, Value.cells, Value.oneCell']) rfl hO8 (by omega) (fun u2 w9 q9 hO9 hf9 hn9 => ?_)
    have hm := mcs_take hk1
    rw [← show v.m k = v.merges.getD k (0, 0, 0) from rfl] at hm
    rw [← hm] at hO9
    have hz9 := hf9.size
    have hg9 : ∀ g, u2.ownBlock = some g → p3 < g := fun g hg' => by
      rcases hn9 g hg' with h | h
      · exact hg g h
      · omega
    have hB9 := hB8.fr hf9 (fun e => by have := hg p e; omega)
    have hQ29 := hQ28.fr hf9 (fun e => by have := hg p2 e; omega)
    have hQ9 := hQ8.fr hf9 (fun e => by have := hg p3 e; omega)
    have hC9 := hC8.fr hf9 (fun a ha e => by have := hg _ e; have := hA5 a ha; omega)
    have hf09 : Fr no w w9 := hf08.trans hf9 (fun b hb e => by have := hg b e; omega)
    have hu1 : u2.oneCell' = true := by
      rcases hO9.2 with ⟨rfl, _⟩ | ⟨g, cap, cur, rfl, _⟩ <;> rfl
    clear hB8 hQ28 hQ8 hC8 hO8 hf08 hf9
    repeat (first
      | refine stepF_ok tabOk [] (m := 400) rfl ?_
      | refine stepF_ok tabOk [] (m := 16) rfl ?_
      | refine stepF_ok tabOk [] (m := 3) rfl ?_
      | refine stepF_ok tabOk [] (m := 0) rfl ?_
      | refine ev_load rfl rfl tabOk rfl rfl (by assumption) ?_
      | refine ev_loadB rfl rfl tabOk rfl rfl (by assumption) (by rfl) ?_
      | refine ev_loadAggB rfl rfl tabOk rfl rfl (by assumption) (by rfl) ?_
      | refine ev_arith rfl rfl rfl rfl rfl (by simp only [lowK, hiK]; omega) ?_
      | refine ev_rem rfl rfl rfl rfl (by omega) (by omega) ?_
      | refine ev_quo rfl rfl rfl rfl (by omega) (by omega) (by simp only [hiK]; omega) ?_
      | refine ev_index rfl rfl tabOk rfl rfl rfl (by omega) (by omega) ?_
      | refine ev_indexA rfl rfl tabOk rfl rfl rfl (by omega) (by omega) rfl ?_
      | refine ev_convB rfl rfl tabOk rfl rfl rfl rfl ?_
      | refine ev_conv rfl rfl tabOk rfl rfl rfl (by simp only [lowK, hiK]; omega) ?_)
    refine ev_store tabOk rfl rfl rfl rfl rfl hu1 hQ9 rfl (fun w10 hQ10 hf10 => ?_)
    repeat (first
      | refine stepF_ok tabOk [] (m := 400) rfl ?_
      | refine stepF_ok tabOk [] (m := 16) rfl ?_
      | refine stepF_ok tabOk [] (m := 3) rfl ?_
      | refine stepF_ok tabOk [] (m := 0) rfl ?_
      | refine ev_load rfl rfl tabOk rfl rfl (by assumption) ?_
      | refine ev_loadB rfl rfl tabOk rfl rfl (by assumption) (by rfl) ?_
      | refine ev_loadAggB rfl rfl tabOk rfl rfl (by assumption) (by rfl) ?_
      | refine ev_arith rfl rfl rfl rfl rfl (by simp only [lowK, hiK]; omega) ?_
      | refine ev_rem rfl rfl rfl rfl (by omega) (by omega) ?_
      | refine ev_quo rfl rfl rfl rfl (by omega) (by omega) (by simp only [hiK]; omega) ?_
      | refine ev_index rfl rfl tabOk rfl rfl rfl (by omega) (by omega) ?_
      | refine ev_indexA rfl rfl tabOk rfl rfl rfl (by omega) (by omega) rfl ?_
      | refine ev_convB rfl rfl tabOk rfl rfl rfl rfl ?_
      | refine ev_conv rfl rfl tabOk rfl rfl rfl (by simp only [lowK, hiK]; omega) ?_)
    exact ev_next (k + 1, u2) (by simp only; omega) ⟨by simp only; omega, old hf09 (by omega) hf10, blk_old hB9 hf10 (by omega), ⟨cs2, hcs2, blk_old hQ29 hf10 (by omega)⟩, hQ10, hC9.fr hf10 (fun a ha e => by have : a.block = p3 := e; have := hA5 a ha; omega), hO9.fr hf10 (fun g hg' e => by have : g = p3 := e; have := hg9 g hg'; omega), hg9, by have := hf10.size; omega⟩ ⟨rfl, rfl, rfl, rfl, trivial⟩
  · have hkn : k = v.merges.length := by omega
    subst hkn
    rw [List.take_length] at hO
    obtain ⟨B', d', rfl, hD, _⟩ := hO.slice
    repeat (first
      | refine stepF_ok tabOk [] (m := 400) rfl ?_
      | refine stepF_ok tabOk [] (m := 16) rfl ?_
      | refine stepF_ok tabOk [] (m := 3) rfl ?_
      | refine stepF_ok tabOk [] (m := 0) rfl ?_
      | refine ev_load rfl rfl tabOk rfl rfl (by assumption) ?_
      | refine ev_loadB rfl rfl tabOk rfl rfl (by assumption) (by rfl) ?_
      | refine ev_loadAggB rfl rfl tabOk rfl rfl (by assumption) (by rfl) ?_
      | refine ev_arith rfl rfl rfl rfl rfl (by simp only [lowK, hiK]; omega) ?_
      | refine ev_rem rfl rfl rfl rfl (by omega) (by omega) ?_
      | refine ev_quo rfl rfl rfl rfl (by omega) (by omega) (by simp only [hiK]; omega) ?_
      | refine ev_index rfl rfl tabOk rfl rfl rfl (by omega) (by omega) ?_
      | refine ev_indexA rfl rfl tabOk rfl rfl rfl (by omega) (by omega) rfl ?_
      | refine ev_convB rfl rfl tabOk rfl rfl rfl rfl ?_
      | refine ev_conv rfl rfl tabOk rfl rfl rfl (by simp only [lowK, hiK]; omega) ?_)
    refine ev_storeAgg tabOk rfl rfl rfl rfl rfl rfl hQ2 hcs2 (fun w7 hQ7 hf7 => ?_)
    repeat (first
      | refine stepF_ok tabOk [] (m := 400) rfl ?_
      | refine stepF_ok tabOk [] (m := 16) rfl ?_
      | refine stepF_ok tabOk [] (m := 3) rfl ?_
      | refine stepF_ok tabOk [] (m := 0) rfl ?_
      | refine ev_load rfl rfl tabOk rfl rfl (by assumption) ?_
      | refine ev_loadB rfl rfl tabOk rfl rfl (by assumption) (by rfl) ?_
      | refine ev_loadAggB rfl rfl tabOk rfl rfl (by assumption) (by rfl) ?_
      | refine ev_arith rfl rfl rfl rfl rfl (by simp only [lowK, hiK]; omega) ?_
      | refine ev_rem rfl rfl rfl rfl (by omega) (by omega) ?_
      | refine ev_quo rfl rfl rfl rfl (by omega) (by omega) (by simp only [hiK]; omega) ?_
      | refine ev_index rfl rfl tabOk rfl rfl rfl (by omega) (by omega) ?_
      | refine ev_indexA rfl rfl tabOk rfl rfl rfl (by omega) (by omega) rfl ?_
      | refine ev_convB rfl rfl tabOk rfl rfl rfl rfl ?_
      | refine ev_conv rfl rfl tabOk rfl rfl rfl (by simp only [lowK, hiK]; omega) ?_)
    refine retG tabOk (.inr rfl) rfl [vv A' c' B' d' v] ⟨⟨_, rfl, .inl ⟨rfl, _, rfl, rfl, Cs.of_blk hQ7⟩⟩, trivial⟩ ⟨⟨A', c', B', d', rfl, hC.fr hf7 (fun a ha e => by have : a.block = p2 := e; have := hA5 a ha; omega), hD.fr hf7 (fun a ha e => ?_)⟩, old hf (by omega) hf7⟩
    have : a.block = p2 := e
    subst ha
    have := hg a.block rfl
    omega

theorem q_mrgNeq {C : World → Prop} {n : Nat} {Q : Act → Prop} {L l : List Oper} {env : Env} {d : Nat} {ty t' : TypeId} {ps : String} {af : Array Edge} {g : Option (Nat × Bool)} {x y : Operand} {m m' : Mrg}
    (hg : guardOf L env g = some true) (hd : Nat.blt d n = true) (hx : ev env x = some (.agg ⟨mrg1 m⟩)) (hy : ev env y = some (.agg ⟨mrg1 m'⟩))
    (hk : HQ Try.prog C n Q L l ((d, .bool (!decide (m = m'))) :: env)) : HQ Try.prog C n Q L (⟨some d, .binOp .neq 58 x y t', ty, ps, af, g⟩ :: l) env :=
  q_y hg hd (fun a hA w _ => by
    simp only [execOp, hA.ev hx, hA.ev hy]
    refine run_bind (a := Value.bool (!decide (m = m'))) (w' := w) ?_
    refine (run_bind (a := ()) (w' := w) (run_eqGuard_agg _ _ _ _ _ _ _ (by kernel_rfl))).trans ?_
    exact mrg_neq m m' w) hk

def VV.same (a b : VV) : Prop := a.texts = b.texts ∧ a.merges = b.merges
instance (a b : VV) : Decidable (a.same b) := by unfold VV.same; infer_instance
theorem VV.same_refl (a : VV) : a.same a := ⟨rfl, rfl⟩
theorem same_of {a b : VV} (h1 : a.texts.length = b.texts.length) (h2 : a.merges.length = b.merges.length) (h3 : ∀ i, i < a.texts.length → a.t i = b.t i) (h4 : ∀ i, i < a.merges.length → a.m i = b.m i) : a.same b := by
  refine ⟨List.ext_getElem h1 fun i hi hj => ?_, List.ext_getElem h2 fun i hi hj => ?_⟩
  · have := h3 i hi
    unfold VV.t at this
    rw [List.getD_eq_getElem?_getD, List.getD_eq_getElem?_getD, List.getElem?_eq_getElem hi, List.getElem?_eq_getElem hj] at this
    exact this
  · have := h4 i hi
    unfold VV.m at this
    rw [List.getD_eq_getElem?_getD, List.getD_eq_getElem?_getD, List.getElem?_eq_getElem hi, List.getElem?_eq_getElem hj] at this
    exact this
theorem VV.same_t {a b : VV} (h : a.same b) (i : Nat) : a.t i = b.t i := by unfold VV.t; rw [h.1]
theorem VV.same_m {a b : VV} (h : a.same b) (i : Nat) : a.m i = b.m i := by unfold VV.m; rw [h.2]

theorem refSame (A : Option Addr) (c : Nat) (B : Option Addr) (d : Nat) (v : VV) (A2 : Option Addr) (c2 : Nat) (B2 : Option Addr) (d2 : Nat) (u : VV) (w : World) (hV : Vo w A B v) (hU : Vo w A2 B2 u) (hS : VS v) (hS2 : VS u) :
    CallsF Try.prog 16 [vv A c B d v, vv A2 c2 B2 d2 u] w fun r w' => r = .bool (decide (v.same u)) ∧ Fr no w w' := by
  have hn := hS.merges
  have hnt := hS.texts
  have hn2 := hS2.merges
  have hnt2 := hS2.texts
  have bad : ¬ v.same u → decide (v.same u) = false := fun h => decide_eq_false h
  refine callsF Try.func16 rfl rfl (by decide) rfl ?_
  refine stepF_ok tabOk [] (m := 3) rfl ?_
  refine ev_box rfl rfl rfl (fun p wb hp hB hfb => ?_)
  have hB : Blk wb p [.slice A v.texts.length c, .slice B v.merges.length d] 28 := hB
  refine ev_box rfl rfl rfl (fun q w1 hq hQ hf1 => ?_)
  have hQ : Blk w1 q [.slice A2 u.texts.length c2, .slice B2 u.merges.length d2] 28 := hQ
  have hB := hB.fr0 hf1
  have hf01 := hfb.tr hf1
  clear hfb hf1
  repeat (first
    | refine stepF_ok tabOk [] (m := 400) rfl ?_
    | refine stepF_ok tabOk [] (m := 16) rfl ?_
    | refine stepF_ok tabOk [] (m := 3) rfl ?_
    | refine stepF_ok tabOk [] (m := 0) rfl ?_
    | refine ev_load rfl rfl tabOk rfl rfl (by assumption) ?_
    | refine ev_loadB rfl rfl tabOk rfl rfl (by assumption) (by rfl) ?_
    | refine ev_loadAggB rfl rfl tabOk rfl rfl (by assumption) (by rfl) ?_
    | refine ev_arith rfl rfl rfl rfl rfl (by simp only [lowK, hiK]; omega) ?_
    | refine ev_rem rfl rfl rfl rfl (by omega) (by omega) ?_
    | refine ev_quo rfl rfl rfl rfl (by omega) (by omega) (by simp only [hiK]; omega) ?_
    | refine ev_index rfl rfl tabOk rfl rfl rfl (by omega) (by omega) ?_
    | refine ev_indexA rfl rfl tabOk rfl rfl rfl (by omega) (by omega) rfl ?_
    | refine ev_convB rfl rfl tabOk rfl rfl rfl rfl ?_
    | refine ev_conv rfl rfl tabOk rfl rfl rfl (by simp only [lowK, hiK]; omega) ?_)
  by_cases h1 : ¬ v.texts.length = u.texts.length
  · rw [show decide (¬ (v.texts.length : Int) = u.texts.length) = true from decide_eq_true (by omega)]
    repeat (first
      | refine stepF_ok tabOk [] (m := 400) rfl ?_
      | refine stepF_ok tabOk [] (m := 16) rfl ?_
      | refine stepF_ok tabOk [] (m := 3) rfl ?_
      | refine stepF_ok tabOk [] (m := 0) rfl ?_
      | refine ev_load rfl rfl tabOk rfl rfl (by assumption) ?_
      | refine ev_loadB rfl rfl tabOk rfl rfl (by assumption) (by rfl) ?_
      | refine ev_loadAggB rfl rfl tabOk rfl rfl (by assumption) (by rfl) ?_
      | refine ev_arith rfl rfl rfl rfl rfl (by simp only [lowK, hiK]; omega) ?_
      | refine ev_rem rfl rfl rfl rfl (by omega) (by omega) ?_
      | refine ev_quo rfl rfl rfl rfl (by omega) (by omega) (by simp only [hiK]; omega) ?_
      | refine ev_index rfl rfl tabOk rfl rfl rfl (by omega) (by omega) ?_
      | refine ev_indexA rfl rfl tabOk rfl rfl rfl (by omega) (by omega) rfl ?_
      | refine ev_convB rfl rfl tabOk rfl rfl rfl rfl ?_
      | refine ev_conv rfl rfl tabOk rfl rfl rfl (by simp only [lowK, hiK]; omega) ?_)
    exact ret1 (.inr rfl) rfl rfl ⟨by rw [bad (fun h => h1 (congrArg List.length h.1))], hf01⟩
  have h1 := Decidable.not_not.1 h1
  rw [show decide (¬ (v.texts.length : Int) = u.texts.length) = false from decide_eq_false (by omega)]
  repeat (first
    | refine stepF_ok tabOk [] (m := 400) rfl ?_
    | refine stepF_ok tabOk [] (m := 16) rfl ?_
    | refine stepF_ok tabOk [] (m := 3) rfl ?_
    | refine stepF_ok tabOk [] (m := 0) rfl ?_
    | refine ev_load rfl rfl tabOk rfl rfl (by assumption) ?_
    | refine ev_loadB rfl rfl tabOk rfl rfl (by assumption) (by rfl) ?_
    | refine ev_loadAggB rfl rfl tabOk rfl rfl (by assumption) (by rfl) ?_
    | refine ev_arith rfl rfl rfl rfl rfl (by simp only [lowK, hiK]; omega) ?_
    | refine ev_rem rfl rfl rfl rfl (by omega) (by omega) ?_
    | refine ev_quo rfl rfl rfl rfl (by omega) (by omega) (by simp only [hiK]; omega) ?_
    | refine ev_index rfl rfl tabOk rfl rfl rfl (by omega) (by omega) ?_
    | refine ev_indexA rfl rfl tabOk rfl rfl rfl (by omega) (by omega) rfl ?_
    | refine ev_convB rfl rfl tabOk rfl rfl rfl rfl ?_
    | refine ev_conv rfl rfl tabOk rfl rfl rfl (by simp only [lowK, hiK]; omega) ?_)
  refine ev_condD rfl (fun h2 => ?_) (fun h2 => ?_)
  · repeat (first
      | refine stepF_ok tabOk [] (m := 400) rfl ?_
      | refine stepF_ok tabOk [] (m := 16) rfl ?_
      | refine stepF_ok tabOk [] (m := 3) rfl ?_
      | refine stepF_ok tabOk [] (m := 0) rfl ?_
      | refine ev_load rfl rfl tabOk rfl rfl (by assumption) ?_
      | refine ev_loadB rfl rfl tabOk rfl rfl (by assumption) (by rfl) ?_
      | refine ev_loadAggB rfl rfl tabOk rfl rfl (by assumption) (by rfl) ?_
      | refine ev_arith rfl rfl rfl rfl rfl (by simp only [lowK, hiK]; omega) ?_
      | refine ev_rem rfl rfl rfl rfl (by omega) (by omega) ?_
      | refine ev_quo rfl rfl rfl rfl (by omega) (by omega) (by simp only [hiK]; omega) ?_
      | refine ev_index rfl rfl tabOk rfl rfl rfl (by omega) (by omega) ?_
      | refine ev_indexA rfl rfl tabOk rfl rfl rfl (by omega) (by omega) rfl ?_
      | refine ev_convB rfl rfl tabOk rfl rfl rfl rfl ?_
      | refine ev_conv rfl rfl tabOk rfl rfl rfl (by simp only [lowK, hiK]; omega) ?_)
    exact ret1 (.inr rfl) rfl rfl ⟨by rw [bad (fun h => h2 (by rw [h.2]))], hf01⟩
  have h2 : v.merges.length = u.merges.length := by omega
  repeat (first
    | refine stepF_ok tabOk [] (m := 400) rfl ?_
    | refine stepF_ok tabOk [] (m := 16) rfl ?_
    | refine stepF_ok tabOk [] (m := 3) rfl ?_
    | refine stepF_ok tabOk [] (m := 0) rfl ?_
    | refine ev_load rfl rfl tabOk rfl rfl (by assumption) ?_
    | refine ev_loadB rfl rfl tabOk rfl rfl (by assumption) (by rfl) ?_
    | refine ev_loadAggB rfl rfl tabOk rfl rfl (by assumption) (by rfl) ?_
    | refine ev_arith rfl rfl rfl rfl rfl (by simp only [lowK, hiK]; omega) ?_
    | refine ev_rem rfl rfl rfl rfl (by omega) (by omega) ?_
    | refine ev_quo rfl rfl rfl rfl (by omega) (by omega) (by simp only [hiK]; omega) ?_
    | refine ev_index rfl rfl tabOk rfl rfl rfl (by omega) (by omega) ?_
    | refine ev_indexA rfl rfl tabOk rfl rfl rfl (by omega) (by omega) rfl ?_
    | refine ev_convB rfl rfl tabOk rfl rfl rfl rfl ?_
    | refine ev_conv rfl rfl tabOk rfl rfl rfl (by simp only [lowK, hiK]; omega) ?_)
  refine ev_loop (α := Nat) (fun k => [(2, .pointer (some ⟨p, 0, none⟩)), (3, .pointer (some ⟨q, 0, none⟩)), (5, i64 k)])
    (fun k w' => k ≤ v.texts.length ∧ (∀ i, i < k → v.t i = u.t i) ∧ Fr no w w' ∧ Blk w' p [.slice A v.texts.length c, .slice B v.merges.length d] 28 ∧ Blk w' q [.slice A2 u.texts.length c2, .slice B2 u.merges.length d2] 28) (fun k => v.texts.length - k) 0 ⟨rfl, rfl, rfl, trivial⟩ ⟨Nat.zero_le _, fun j h => by omega, hf01, hB, hQ⟩ ?_
  clear hB hQ hf01
  rintro k w2 ⟨hk, hall, hf, hB, hQ⟩
  repeat (first
    | refine stepF_ok tabOk [] (m := 400) rfl ?_
    | refine stepF_ok tabOk [] (m := 16) rfl ?_
    | refine stepF_ok tabOk [] (m := 3) rfl ?_
    | refine stepF_ok tabOk [] (m := 0) rfl ?_
    | refine ev_load rfl rfl tabOk rfl rfl (by assumption) ?_
    | refine ev_loadB rfl rfl tabOk rfl rfl (by assumption) (by rfl) ?_
    | refine ev_loadAggB rfl rfl tabOk rfl rfl (by assumption) (by rfl) ?_
    | refine ev_arith rfl rfl rfl rfl rfl (by simp only [lowK, hiK]; omega) ?_
    | refine ev_rem rfl rfl rfl rfl (by omega) (by omega) ?_
    | refine ev_quo rfl rfl rfl rfl (by omega) (by omega) (by simp only [hiK]; omega) ?_
    | refine ev_index rfl rfl tabOk rfl rfl rfl (by omega) (by omega) ?_
    | refine ev_indexA rfl rfl tabOk rfl rfl rfl (by omega) (by omega) rfl ?_
    | refine ev_convB rfl rfl tabOk rfl rfl rfl rfl ?_
    | refine ev_conv rfl rfl tabOk rfl rfl rfl (by simp only [lowK, hiK]; omega) ?_)
  refine ev_condD rfl (fun hlt => ?_) (fun hlt => ?_)
  · have hk1 : k < v.texts.length := by omega
    obtain ⟨g, o, e1, hcx⟩ := strs_at (hV.fr0 hf).1 hk1
    subst e1
    obtain ⟨g2, o2, e2, hcy⟩ := strs_at (hU.fr0 hf).1 (j := k) (by omega)
    subst e2
    have hcx : w2.cell? ⟨g, o + (k : Int).toNat * 1, none⟩ = some (sv (v.t k)) := hcx
    have hcy : w2.cell? ⟨g2, o2 + (k : Int).toNat * 1, none⟩ = some (sv (u.t k)) := hcy
    repeat (first
      | refine stepF_ok tabOk [] (m := 400) rfl ?_
      | refine stepF_ok tabOk [] (m := 16) rfl ?_
      | refine stepF_ok tabOk [] (m := 3) rfl ?_
      | refine stepF_ok tabOk [] (m := 0) rfl ?_
      | refine ev_load rfl rfl tabOk rfl rfl (by assumption) ?_
      | refine ev_loadB rfl rfl tabOk rfl rfl (by assumption) (by rfl) ?_
      | refine ev_loadAggB rfl rfl tabOk rfl rfl (by assumption) (by rfl) ?_
      | refine ev_arith rfl rfl rfl rfl rfl (by simp only [lowK, hiK]; omega) ?_
      | refine ev_rem rfl rfl rfl rfl (by omega) (by omega) ?_
      | refine ev_quo rfl rfl rfl rfl (by omega) (by omega) (by simp only [hiK]; omega) ?_
      | refine ev_index rfl rfl tabOk rfl rfl rfl (by omega) (by omega) ?_
      | refine ev_indexA rfl rfl tabOk rfl rfl rfl (by omega) (by omega) rfl ?_
      | refine ev_convB rfl rfl tabOk rfl rfl rfl rfl ?_
      | refine ev_conv rfl rfl tabOk rfl rfl rfl (by simp only [lowK, hiK]; omega) ?_)
    refine ev_draw mixed (by kernel_rfl) ?_
    repeat (first
      | refine stepQF_ok tabOk (m := 400) rfl ?_
      | refine stepQF_ok tabOk (m := 16) rfl ?_
      | refine stepQF_ok tabOk (m := 3) rfl ?_
      | refine stepQF_ok tabOk (m := 0) rfl ?_
      | refine q_load rfl rfl tabOk rfl rfl (fun _ hf => cell_fr (by assumption) hf id) ?_
      | refine q_loadB rfl rfl tabOk rfl rfl (by assumption) (by rfl) ?_
      | refine q_loadAggB rfl rfl tabOk rfl rfl (by assumption) (by rfl) ?_
      | refine q_arith rfl rfl rfl rfl rfl (by simp only [lowK, hiK]; omega) ?_
      | refine q_rem rfl rfl rfl rfl (by omega) (by omega) ?_
      | refine q_quo rfl rfl rfl rfl (by omega) (by omega) (by simp only [hiK]; omega) ?_
      | refine q_index rfl rfl tabOk rfl rfl rfl (by omega) (by omega) ?_
      | refine q_convB rfl rfl tabOk rfl rfl rfl rfl ?_
      | refine q_conv rfl rfl tabOk rfl rfl rfl (by simp only [lowK, hiK]; omega) ?_)
    refine q_indexAddr (len := v.texts.length) (i := k) rfl rfl tabOk rfl rfl rfl (by omega) (by omega) ?_
    repeat (first
      | refine stepQF_ok tabOk (m := 400) rfl ?_
      | refine stepQF_ok tabOk (m := 16) rfl ?_
      | refine stepQF_ok tabOk (m := 3) rfl ?_
      | refine stepQF_ok tabOk (m := 0) rfl ?_
      | refine q_load rfl rfl tabOk rfl rfl (fun _ hf => cell_fr (by assumption) hf id) ?_
      | refine q_loadB rfl rfl tabOk rfl rfl (by assumption) (by rfl) ?_
      | refine q_loadAggB rfl rfl tabOk rfl rfl (by assumption) (by rfl) ?_
      | refine q_arith rfl rfl rfl rfl rfl (by simp only [lowK, hiK]; omega) ?_
      | refine q_rem rfl rfl rfl rfl (by omega) (by omega) ?_
      | refine q_quo rfl rfl rfl rfl (by omega) (by omega) (by simp only [hiK]; omega) ?_
      | refine q_index rfl rfl tabOk rfl rfl rfl (by omega) (by omega) ?_
      | refine q_convB rfl rfl tabOk rfl rfl rfl rfl ?_
      | refine q_conv rfl rfl tabOk rfl rfl rfl (by simp only [lowK, hiK]; omega) ?_)
    refine q_indexAddr (len := u.texts.length) (i := k) rfl rfl tabOk rfl rfl rfl (by omega) (by omega) ?_
    repeat (first
      | refine stepQF_ok tabOk (m := 400) rfl ?_
      | refine stepQF_ok tabOk (m := 16) rfl ?_
      | refine stepQF_ok tabOk (m := 3) rfl ?_
      | refine stepQF_ok tabOk (m := 0) rfl ?_
      | refine q_load rfl rfl tabOk rfl rfl (fun _ hf => cell_fr (by assumption) hf id) ?_
      | refine q_loadB rfl rfl tabOk rfl rfl (by assumption) (by rfl) ?_
      | refine q_loadAggB rfl rfl tabOk rfl rfl (by assumption) (by rfl) ?_
      | refine q_arith rfl rfl rfl rfl rfl (by simp only [lowK, hiK]; omega) ?_
      | refine q_rem rfl rfl rfl rfl (by omega) (by omega) ?_
      | refine q_quo rfl rfl rfl rfl (by omega) (by omega) (by simp only [hiK]; omega) ?_
      | refine q_index rfl rfl tabOk rfl rfl rfl (by omega) (by omega) ?_
      | refine q_convB rfl rfl tabOk rfl rfl rfl rfl ?_
      | refine q_conv rfl rfl tabOk rfl rfl rfl (by simp only [lowK, hiK]; omega) ?_)
    refine q_end fun w3 hf3 => ?_
    refine ev_condD rfl (fun h3 => ?_) (fun h3 => ?_)
    · repeat (first
        | refine stepF_ok tabOk [] (m := 400) rfl ?_
        | refine stepF_ok tabOk [] (m := 16) rfl ?_
        | refine stepF_ok tabOk [] (m := 3) rfl ?_
        | refine stepF_ok tabOk [] (m := 0) rfl ?_
        | refine ev_load rfl rfl tabOk rfl rfl (by assumption) ?_
        | refine ev_loadB rfl rfl tabOk rfl rfl (by assumption) (by rfl) ?_
        | refine ev_loadAggB rfl rfl tabOk rfl rfl (by assumption) (by rfl) ?_
        | refine ev_arith rfl rfl rfl rfl rfl (by simp only [lowK, hiK]; omega) ?_
        | refine ev_rem rfl rfl rfl rfl (by omega) (by omega) ?_
        | refine ev_quo rfl rfl rfl rfl (by omega) (by omega) (by simp only [hiK]; omega) ?_
        | refine ev_index rfl rfl tabOk rfl rfl rfl (by omega) (by omega) ?_
        | refine ev_indexA rfl rfl tabOk rfl rfl rfl (by omega) (by omega) rfl ?_
        | refine ev_convB rfl rfl tabOk rfl rfl rfl rfl ?_
        | refine ev_conv rfl rfl tabOk rfl rfl rfl (by simp only [lowK, hiK]; omega) ?_)
      exact ret1 (.inr rfl) rfl rfl ⟨by rw [bad (fun h => h3 (VV.same_t h k))], hf.tr hf3⟩
    · have hB3 := hB.fr0 hf3
      have hQ3 := hQ.fr0 hf3
      have h3 := Decidable.not_not.1 h3
      clear hB hQ hcx hcy
      repeat (first
        | refine stepF_ok tabOk [] (m := 400) rfl ?_
        | refine stepF_ok tabOk [] (m := 16) rfl ?_
        | refine stepF_ok tabOk [] (m := 3) rfl ?_
        | refine stepF_ok tabOk [] (m := 0) rfl ?_
        | refine ev_load rfl rfl tabOk rfl rfl (by assumption) ?_
        | refine ev_loadB rfl rfl tabOk rfl rfl (by assumption) (by rfl) ?_
        | refine ev_loadAggB rfl rfl tabOk rfl rfl (by assumption) (by rfl) ?_
        | refine ev_arith rfl rfl rfl rfl rfl (by simp only [lowK, hiK]; omega) ?_
        | refine ev_rem rfl rfl rfl rfl (by omega) (by omega) ?_
        | refine ev_quo rfl rfl rfl rfl (by omega) (by omega) (by simp only [hiK]; omega) ?_
        | refine ev_index rfl rfl tabOk rfl rfl rfl (by omega) (by omega) ?_
        | refine ev_indexA rfl rfl tabOk rfl rfl rfl (by omega) (by omega) rfl ?_
        | refine ev_convB rfl rfl tabOk rfl rfl rfl rfl ?_
        | refine ev_conv rfl rfl tabOk rfl rfl rfl (by simp only [lowK, hiK]; omega) ?_)
      refine ev_next (k + 1) (by omega) ⟨by omega, fun i hi => ?_, hf.tr hf3, hB3, hQ3⟩ ⟨rfl, rfl, rfl, trivial⟩
      by_cases e : i = k
      · subst e; exact h3
      · exact hall i (by omega)
  · have hkn : k = v.texts.length := by omega
    subst hkn
    repeat (first
      | refine stepF_ok tabOk [] (m := 400) rfl ?_
      | refine stepF_ok tabOk [] (m := 16) rfl ?_
      | refine stepF_ok tabOk [] (m := 3) rfl ?_
      | refine stepF_ok tabOk [] (m := 0) rfl ?_
      | refine ev_load rfl rfl tabOk rfl rfl (by assumption) ?_
      | refine ev_loadB rfl rfl tabOk rfl rfl (by assumption) (by rfl) ?_
      | refine ev_loadAggB rfl rfl tabOk rfl rfl (by assumption) (by rfl) ?_
      | refine ev_arith rfl rfl rfl rfl rfl (by simp only [lowK, hiK]; omega) ?_
      | refine ev_rem rfl rfl rfl rfl (by omega) (by omega) ?_
      | refine ev_quo rfl rfl rfl rfl (by omega) (by omega) (by simp only [hiK]; omega) ?_
      | refine ev_index rfl rfl tabOk rfl rfl rfl (by omega) (by omega) ?_
      | refine ev_indexA rfl rfl tabOk rfl rfl rfl (by omega) (by omega) rfl ?_
      | refine ev_convB rfl rfl tabOk rfl rfl rfl rfl ?_
      | refine ev_conv rfl rfl tabOk rfl rfl rfl (by simp only [lowK, hiK]; omega) ?_)
    refine ev_loop (α := Nat) (fun k => [(2, .pointer (some ⟨p, 0, none⟩)), (3, .pointer (some ⟨q, 0, none⟩)), (6, i64 k)])
      (fun k w' => k ≤ v.merges.length ∧ (∀ i, i < k → v.m i = u.m i) ∧ Fr no w w' ∧ Blk w' p [.slice A v.texts.length c, .slice B v.merges.length d] 28 ∧ Blk w' q [.slice A2 u.texts.length c2, .slice B2 u.merges.length d2] 28) (fun k => v.merges.length - k) 0 ⟨rfl, rfl, rfl, trivial⟩ ⟨Nat.zero_le _, fun j h => by omega, hf, hB, hQ⟩ ?_
    clear hB hQ hf
    rintro k w2 ⟨hk, hallM, hf, hB, hQ⟩
    repeat (first
      | refine stepF_ok tabOk [] (m := 400) rfl ?_
      | refine stepF_ok tabOk [] (m := 16) rfl ?_
      | refine stepF_ok tabOk [] (m := 3) rfl ?_
      | refine stepF_ok tabOk [] (m := 0) rfl ?_
      | refine ev_load rfl rfl tabOk rfl rfl (by assumption) ?_
      | refine ev_loadB rfl rfl tabOk rfl rfl (by assumption) (by rfl) ?_
      | refine ev_loadAggB rfl rfl tabOk rfl rfl (by assumption) (by rfl) ?_
      | refine ev_arith rfl rfl rfl rfl rfl (by simp only [lowK, hiK]; omega) ?_
      | refine ev_rem rfl rfl rfl rfl (by omega) (by omega) ?_
      | refine ev_quo rfl rfl rfl rfl (by omega) (by omega) (by simp only [hiK]; omega) ?_
      | refine ev_index rfl rfl tabOk rfl rfl rfl (by omega) (by omega) ?_
      | refine ev_indexA rfl rfl tabOk rfl rfl rfl (by omega) (by omega) rfl ?_
      | refine ev_convB rfl rfl tabOk rfl rfl rfl rfl ?_
      | refine ev_conv rfl rfl tabOk rfl rfl rfl (by simp only [lowK, hiK]; omega) ?_)
    refine ev_condD rfl (fun hlt => ?_) (fun hlt => ?_)
    · have hk1 : k < v.merges.length := by omega
      obtain ⟨g, o, e1, hcx⟩ := mrgs_at hV.2 hk1
      subst e1
      obtain ⟨g2, o2, e2, hcy⟩ := mrgs_at hU.2 (j := k) (by omega)
      subst e2
      have hcx : ∀ w', Fr no w2 w' → Cs w' (some ⟨g, o + (k : Int).toNat * 3, none⟩) (mrg1 (v.m k)) := fun w' hf' => hcx.fr0 (hf.tr hf')
      have hcy : ∀ w', Fr no w2 w' → Cs w' (some ⟨g2, o2 + (k : Int).toNat * 3, none⟩) (mrg1 (u.m k)) := fun w' hf' => hcy.fr0 (hf.tr hf')
      repeat (first
        | refine stepF_ok tabOk [] (m := 400) rfl ?_
        | refine stepF_ok tabOk [] (m := 16) rfl ?_
        | refine stepF_ok tabOk [] (m := 3) rfl ?_
        | refine stepF_ok tabOk [] (m := 0) rfl ?_
        | refine ev_load rfl rfl tabOk rfl rfl (by assumption) ?_
        | refine ev_loadB rfl rfl tabOk rfl rfl (by assumption) (by rfl) ?_
        | refine ev_loadAggB rfl rfl tabOk rfl rfl (by assumption) (by rfl) ?_
        | refine ev_arith rfl rfl rfl rfl rfl (by simp only [lowK, hiK]; omega) ?_
        | refine ev_rem rfl rfl rfl rfl (by omega) (by omega) ?_
        | refine ev_quo rfl rfl rfl rfl (by omega) (by omega) (by simp only [hiK]; omega) ?_
        | refine ev_index rfl rfl tabOk rfl rfl rfl (by omega) (by omega) ?_
        | refine ev_indexA rfl rfl tabOk rfl rfl rfl (by omega) (by omega) rfl ?_
        | refine ev_convB rfl rfl tabOk rfl rfl rfl rfl ?_
        | refine ev_conv rfl rfl tabOk rfl rfl rfl (by simp only [lowK, hiK]; omega) ?_)
      refine ev_draw mixed (by kernel_rfl) ?_
      repeat (first
        | refine stepQF_ok tabOk (m := 400) rfl ?_
        | refine stepQF_ok tabOk (m := 16) rfl ?_
        | refine stepQF_ok tabOk (m := 3) rfl ?_
        | refine stepQF_ok tabOk (m := 0) rfl ?_
        | refine q_load rfl rfl tabOk rfl rfl (fun _ hf => cell_fr (by assumption) hf id) ?_
        | refine q_loadB rfl rfl tabOk rfl rfl (by assumption) (by rfl) ?_
        | refine q_loadAggB rfl rfl tabOk rfl rfl (by assumption) (by rfl) ?_
        | refine q_arith rfl rfl rfl rfl rfl (by simp only [lowK, hiK]; omega) ?_
        | refine q_rem rfl rfl rfl rfl (by omega) (by omega) ?_
        | refine q_quo rfl rfl rfl rfl (by omega) (by omega) (by simp only [hiK]; omega) ?_
        | refine q_index rfl rfl tabOk rfl rfl rfl (by omega) (by omega) ?_
        | refine q_convB rfl rfl tabOk rfl rfl rfl rfl ?_
        | refine q_conv rfl rfl tabOk rfl rfl rfl (by simp only [lowK, hiK]; omega) ?_)
      refine q_indexAddr (len := v.merges.length) (i := k) rfl rfl tabOk rfl rfl rfl (by omega) (by omega) ?_
      refine q_loadAgg rfl rfl tabOk rfl rfl rfl hcx ?_
      repeat (first
        | refine stepQF_ok tabOk (m := 400) rfl ?_
        | refine stepQF_ok tabOk (m := 16) rfl ?_
        | refine stepQF_ok tabOk (m := 3) rfl ?_
        | refine stepQF_ok tabOk (m := 0) rfl ?_
        | refine q_load rfl rfl tabOk rfl rfl (fun _ hf => cell_fr (by assumption) hf id) ?_
        | refine q_loadB rfl rfl tabOk rfl rfl (by assumption) (by rfl) ?_
        | refine q_loadAggB rfl rfl tabOk rfl rfl (by assumption) (by rfl) ?_
        | refine q_arith rfl rfl rfl rfl rfl (by simp only [lowK, hiK]; omega) ?_
        | refine q_rem rfl rfl rfl rfl (by omega) (by omega) ?_
        | refine q_quo rfl rfl rfl rfl (by omega) (by omega) (by simp only [hiK]; omega) ?_
        | refine q_index rfl rfl tabOk rfl rfl rfl (by omega) (by omega) ?_
        | refine q_convB rfl rfl tabOk rfl rfl rfl rfl ?_
        | refine q_conv rfl rfl tabOk rfl rfl rfl (by simp only [lowK, hiK]; omega) ?_)
      refine q_indexAddr (len := u.merges.length) (i := k) rfl rfl tabOk rfl rfl rfl (by omega) (by omega) ?_
      refine q_loadAgg rfl rfl tabOk rfl rfl rfl hcy ?_
      refine q_mrgNeq (m := v.m k) (m' := u.m k) rfl rfl rfl rfl ?_
      repeat (first
        | refine stepQF_ok tabOk (m := 400) rfl ?_
        | refine stepQF_ok tabOk (m := 16) rfl ?_
        | refine stepQF_ok tabOk (m := 3) rfl ?_
        | refine stepQF_ok tabOk (m := 0) rfl ?_
        | refine q_load rfl rfl tabOk rfl rfl (fun _ hf => cell_fr (by assumption) hf id) ?_
        | refine q_loadB rfl rfl tabOk rfl rfl (by assumption) (by rfl) ?_
        | refine q_loadAggB rfl rfl tabOk rfl rfl (by assumption) (by rfl) ?_
        | refine q_arith rfl rfl rfl rfl rfl (by simp only [lowK, hiK]; omega) ?_
        | refine q_rem rfl rfl rfl rfl (by omega) (by omega) ?_
        | refine q_quo rfl rfl rfl rfl (by omega) (by omega) (by simp only [hiK]; omega) ?_
        | refine q_index rfl rfl tabOk rfl rfl rfl (by omega) (by omega) ?_
        | refine q_convB rfl rfl tabOk rfl rfl rfl rfl ?_
        | refine q_conv rfl rfl tabOk rfl rfl rfl (by simp only [lowK, hiK]; omega) ?_)
      refine q_end fun w3 hf3 => ?_
      refine ev_condND rfl (fun h3 => ?_) (fun h3 => ?_)
      · repeat (first
          | refine stepF_ok tabOk [] (m := 400) rfl ?_
          | refine stepF_ok tabOk [] (m := 16) rfl ?_
          | refine stepF_ok tabOk [] (m := 3) rfl ?_
          | refine stepF_ok tabOk [] (m := 0) rfl ?_
          | refine ev_load rfl rfl tabOk rfl rfl (by assumption) ?_
          | refine ev_loadB rfl rfl tabOk rfl rfl (by assumption) (by rfl) ?_
          | refine ev_loadAggB rfl rfl tabOk rfl rfl (by assumption) (by rfl) ?_
          | refine ev_arith rfl rfl rfl rfl rfl (by simp only [lowK, hiK]; omega) ?_
          | refine ev_rem rfl rfl rfl rfl (by omega) (by omega) ?_
          | refine ev_quo rfl rfl rfl rfl (by omega) (by omega) (by simp only [hiK]; omega) ?_
          | refine ev_index rfl rfl tabOk rfl rfl rfl (by omega) (by omega) ?_
          | refine ev_indexA rfl rfl tabOk rfl rfl rfl (by omega) (by omega) rfl ?_
          | refine ev_convB rfl rfl tabOk rfl rfl rfl rfl ?_
          | refine ev_conv rfl rfl tabOk rfl rfl rfl (by simp only [lowK, hiK]; omega) ?_)
        exact ret1 (.inr rfl) rfl rfl ⟨by rw [bad (fun h => h3 (VV.same_m h k))], hf.tr hf3⟩
      · have hB3 := hB.fr0 hf3
        have hQ3 := hQ.fr0 hf3
        clear hB hQ hcx hcy
        repeat (first
          | refine stepF_ok tabOk [] (m := 400) rfl ?_
          | refine stepF_ok tabOk [] (m := 16) rfl ?_
          | refine stepF_ok tabOk [] (m := 3) rfl ?_
          | refine stepF_ok tabOk [] (m := 0) rfl ?_
          | refine ev_load rfl rfl tabOk rfl rfl (by assumption) ?_
          | refine ev_loadB rfl rfl tabOk rfl rfl (by assumption) (by rfl) ?_
          | refine ev_loadAggB rfl rfl tabOk rfl rfl (by assumption) (by rfl) ?_
          | refine ev_arith rfl rfl rfl rfl rfl (by simp only [lowK, hiK]; omega) ?_
          | refine ev_rem rfl rfl rfl rfl (by omega) (by omega) ?_
          | refine ev_quo rfl rfl rfl rfl (by omega) (by omega) (by simp only [hiK]; omega) ?_
          | refine ev_index rfl rfl tabOk rfl rfl rfl (by omega) (by omega) ?_
          | refine ev_indexA rfl rfl tabOk rfl rfl rfl (by omega) (by omega) rfl ?_
          | refine ev_convB rfl rfl tabOk rfl rfl rfl rfl ?_
          | refine ev_conv rfl rfl tabOk rfl rfl rfl (by simp only [lowK, hiK]; omega) ?_)
        refine ev_next (k + 1) (by omega) ⟨by omega, fun i hi => ?_, hf.tr hf3, hB3, hQ3⟩ ⟨rfl, rfl, rfl, trivial⟩
        by_cases e : i = k
        · subst e; exact h3
        · exact hallM i (by omega)
    · have hkn : k = v.merges.length := by omega
      subst hkn
      repeat (first
        | refine stepF_ok tabOk [] (m := 400) rfl ?_
        | refine stepF_ok tabOk [] (m := 16) rfl ?_
        | refine stepF_ok tabOk [] (m := 3) rfl ?_
        | refine stepF_ok tabOk [] (m := 0) rfl ?_
        | refine ev_load rfl rfl tabOk rfl rfl (by assumption) ?_
        | refine ev_loadB rfl rfl tabOk rfl rfl (by assumption) (by rfl) ?_
        | refine ev_loadAggB rfl rfl tabOk rfl rfl (by assumption) (by rfl) ?_
        | refine ev_arith rfl rfl rfl rfl rfl (by simp only [lowK, hiK]; omega) ?_
        | refine ev_rem rfl rfl rfl rfl (by omega) (by omega) ?_
        | refine ev_quo rfl rfl rfl rfl (by omega) (by omega) (by simp only [hiK]; omega) ?_
        | refine ev_index rfl rfl tabOk rfl rfl rfl (by omega) (by omega) ?_
        | refine ev_indexA rfl rfl tabOk rfl rfl rfl (by omega) (by omega) rfl ?_
        | refine ev_convB rfl rfl tabOk rfl rfl rfl rfl ?_
        | refine ev_conv rfl rfl tabOk rfl rfl rfl (by simp only [lowK, hiK]; omega) ?_)
      exact ret1 (.inr rfl) rfl rfl ⟨by rw [decide_eq_true (same_of h1 h2 hall hallM)], hf⟩

/-- the same rows of numbers -/
theorem wInts (A : Option Addr) (c : Nat) (a : List Int) (B : Option Addr) (d : Nat) (b : List Int) (w : World) (hA : Cs w A (a.map i64)) (hB : Cs w B (b.map i64)) (ha : a.length ≤ 1000000000) (hb : b.length ≤ 1000000000) :
    CallsF Try.prog 19 [.slice A a.length c, .slice B b.length d] w fun r w' => r = .bool (decide (a = b)) ∧ Fr no w w' := by
  refine callsF Try.func19 rfl rfl (by decide) rfl ?_
  repeat (first
    | refine stepF_ok tabOk [] (m := 400) rfl ?_
    | refine stepF_ok tabOk [] (m := 16) rfl ?_
    | refine stepF_ok tabOk [] (m := 3) rfl ?_
    | refine stepF_ok tabOk [] (m := 0) rfl ?_
    | refine ev_load rfl rfl tabOk rfl rfl (by assumption) ?_
    | refine ev_loadB rfl rfl tabOk rfl rfl (by assumption) (by rfl) ?_
    | refine ev_loadAggB rfl rfl tabOk rfl rfl (by assumption) (by rfl) ?_
    | refine ev_arith rfl rfl rfl rfl rfl (by simp only [lowK, hiK]; omega) ?_
    | refine ev_rem rfl rfl rfl rfl (by omega) (by omega) ?_
    | refine ev_quo rfl rfl rfl rfl (by omega) (by omega) (by simp only [hiK]; omega) ?_
    | refine ev_index rfl rfl tabOk rfl rfl rfl (by omega) (by omega) ?_
    | refine ev_indexA rfl rfl tabOk rfl rfl rfl (by omega) (by omega) rfl ?_
    | refine ev_convB rfl rfl tabOk rfl rfl rfl rfl ?_
    | refine ev_conv rfl rfl tabOk rfl rfl rfl (by simp only [lowK, hiK]; omega) ?_)
  refine ev_condD rfl (fun h1 => ?_) (fun h1 => ?_)
  · repeat (first
      | refine stepF_ok tabOk [] (m := 400) rfl ?_
      | refine stepF_ok tabOk [] (m := 16) rfl ?_
      | refine stepF_ok tabOk [] (m := 3) rfl ?_
      | refine stepF_ok tabOk [] (m := 0) rfl ?_
      | refine ev_load rfl rfl tabOk rfl rfl (by assumption) ?_
      | refine ev_loadB rfl rfl tabOk rfl rfl (by assumption) (by rfl) ?_
      | refine ev_loadAggB rfl rfl tabOk rfl rfl (by assumption) (by rfl) ?_
      | refine ev_arith rfl rfl rfl rfl rfl (by simp only [lowK, hiK]; omega) ?_
      | refine ev_rem rfl rfl rfl rfl (by omega) (by omega) ?_
      | refine ev_quo rfl rfl rfl rfl (by omega) (by omega) (by simp only [hiK]; omega) ?_
      | refine ev_index rfl rfl tabOk rfl rfl rfl (by omega) (by omega) ?_
      | refine ev_indexA rfl rfl tabOk rfl rfl rfl (by omega) (by omega) rfl ?_
      | refine ev_convB rfl rfl tabOk rfl rfl rfl rfl ?_
      | refine ev_conv rfl rfl tabOk rfl rfl rfl (by simp only [lowK, hiK]; omega) ?_)
    exact ret1 (.inr rfl) rfl rfl ⟨by rw [decide_eq_false (fun h => h1 (by rw [h]))], Fr.refl _ _⟩
  have h1 : a.length = b.length := by omega
  repeat (first
    | refine stepF_ok tabOk [] (m := 400) rfl ?_
    | refine stepF_ok tabOk [] (m := 16) rfl ?_
    | refine stepF_ok tabOk [] (m := 3) rfl ?_
    | refine stepF_ok tabOk [] (m := 0) rfl ?_
    | refine ev_load rfl rfl tabOk rfl rfl (by assumption) ?_
    | refine ev_loadB rfl rfl tabOk rfl rfl (by assumption) (by rfl) ?_
    | refine ev_loadAggB rfl rfl tabOk rfl rfl (by assumption) (by rfl) ?_
    | refine ev_arith rfl rfl rfl rfl rfl (by simp only [lowK, hiK]; omega) ?_
    | refine ev_rem rfl rfl rfl rfl (by omega) (by omega) ?_
    | refine ev_quo rfl rfl rfl rfl (by omega) (by omega) (by simp only [hiK]; omega) ?_
    | refine ev_index rfl rfl tabOk rfl rfl rfl (by omega) (by omega) ?_
    | refine ev_indexA rfl rfl tabOk rfl rfl rfl (by omega) (by omega) rfl ?_
    | refine ev_convB rfl rfl tabOk rfl rfl rfl rfl ?_
    | refine ev_conv rfl rfl tabOk rfl rfl rfl (by simp only [lowK, hiK]; omega) ?_)
  refine ev_loop (α := Nat) (fun k => [(0, .slice A a.length c), (1, .slice B b.length d), (5, i64 k)])
    (fun k w' => k ≤ a.length ∧ (∀ i, i < k → a.getD i 0 = b.getD i 0) ∧ Fr no w w') (fun k => a.length - k) 0 ⟨rfl, rfl, rfl, trivial⟩ ⟨Nat.zero_le _, fun j h => by omega, Fr.refl _ _⟩ ?_
  rintro k w1 ⟨hk, hall, hf⟩
  repeat (first
    | refine stepF_ok tabOk [] (m := 400) rfl ?_
    | refine stepF_ok tabOk [] (m := 16) rfl ?_
    | refine stepF_ok tabOk [] (m := 3) rfl ?_
    | refine stepF_ok tabOk [] (m := 0) rfl ?_
    | refine ev_load rfl rfl tabOk rfl rfl (by assumption) ?_
    | refine ev_loadB rfl rfl tabOk rfl rfl (by assumption) (by rfl) ?_
    | refine ev_loadAggB rfl rfl tabOk rfl rfl (by assumption) (by rfl) ?_
    | refine ev_arith rfl rfl rfl rfl rfl (by simp only [lowK, hiK]; omega) ?_
    | refine ev_rem rfl rfl rfl rfl (by omega) (by omega) ?_
    | refine ev_quo rfl rfl rfl rfl (by omega) (by omega) (by simp only [hiK]; omega) ?_
    | refine ev_index rfl rfl tabOk rfl rfl rfl (by omega) (by omega) ?_
    | refine ev_indexA rfl rfl tabOk rfl rfl rfl (by omega) (by omega) rfl ?_
    | refine ev_convB rfl rfl tabOk rfl rfl rfl rfl ?_
    | refine ev_conv rfl rfl tabOk rfl rfl rfl (by simp only [lowK, hiK]; omega) ?_)
  refine ev_condD rfl (fun hlt => ?_) (fun hlt => ?_)
  · have hk1 : k < a.length := by omega
    obtain ⟨g, o, e1, hcx⟩ := ints_at (hA.fr0 hf) hk1
    subst e1
    obtain ⟨g2, o2, e2, hcy⟩ := ints_at (hB.fr0 hf) (j := k) (by omega)
    subst e2
    repeat (first
      | refine stepF_ok tabOk [] (m := 400) rfl ?_
      | refine stepF_ok tabOk [] (m := 16) rfl ?_
      | refine stepF_ok tabOk [] (m := 3) rfl ?_
      | refine stepF_ok tabOk [] (m := 0) rfl ?_
      | refine ev_load rfl rfl tabOk rfl rfl (by assumption) ?_
      | refine ev_loadB rfl rfl tabOk rfl rfl (by assumption) (by rfl) ?_
      | refine ev_loadAggB rfl rfl tabOk rfl rfl (by assumption) (by rfl) ?_
      | refine ev_arith rfl rfl rfl rfl rfl (by simp only [lowK, hiK]; omega) ?_
      | refine ev_rem rfl rfl rfl rfl (by omega) (by omega) ?_
      | refine ev_quo rfl rfl rfl rfl (by omega) (by omega) (by simp only [hiK]; omega) ?_
      | refine ev_index rfl rfl tabOk rfl rfl rfl (by omega) (by omega) ?_
      | refine ev_indexA rfl rfl tabOk rfl rfl rfl (by omega) (by omega) rfl ?_
      | refine ev_convB rfl rfl tabOk rfl rfl rfl rfl ?_
      | refine ev_conv rfl rfl tabOk rfl rfl rfl (by simp only [lowK, hiK]; omega) ?_)
    refine ev_draw mixed (by kernel_rfl) ?_
    repeat (first
      | refine stepQF_ok tabOk (m := 400) rfl ?_
      | refine stepQF_ok tabOk (m := 16) rfl ?_
      | refine stepQF_ok tabOk (m := 3) rfl ?_
      | refine stepQF_ok tabOk (m := 0) rfl ?_
      | refine q_load rfl rfl tabOk rfl rfl (fun _ hf => cell_fr (by assumption) hf id) ?_
      | refine q_loadB rfl rfl tabOk rfl rfl (by assumption) (by rfl) ?_
      | refine q_loadAggB rfl rfl tabOk rfl rfl (by assumption) (by rfl) ?_
      | refine q_arith rfl rfl rfl rfl rfl (by simp only [lowK, hiK]; omega) ?_
      | refine q_rem rfl rfl rfl rfl (by omega) (by omega) ?_
      | refine q_quo rfl rfl rfl rfl (by omega) (by omega) (by simp only [hiK]; omega) ?_
      | refine q_index rfl rfl tabOk rfl rfl rfl (by omega) (by omega) ?_
      | refine q_convB rfl rfl tabOk rfl rfl rfl rfl ?_
      | refine q_conv rfl rfl tabOk rfl rfl rfl (by simp only [lowK, hiK]; omega) ?_)
    refine q_indexAddr (len := a.length) (i := k) rfl rfl tabOk rfl rfl rfl (by omega) (by omega) ?_
    repeat (first
      | refine stepQF_ok tabOk (m := 400) rfl ?_
      | refine stepQF_ok tabOk (m := 16) rfl ?_
      | refine stepQF_ok tabOk (m := 3) rfl ?_
      | refine stepQF_ok tabOk (m := 0) rfl ?_
      | refine q_load rfl rfl tabOk rfl rfl (fun _ hf => cell_fr (by assumption) hf id) ?_
      | refine q_loadB rfl rfl tabOk rfl rfl (by assumption) (by rfl) ?_
      | refine q_loadAggB rfl rfl tabOk rfl rfl (by assumption) (by rfl) ?_
      | refine q_arith rfl rfl rfl rfl rfl (by simp only [lowK, hiK]; omega) ?_
      | refine q_rem rfl rfl rfl rfl (by omega) (by omega) ?_
      | refine q_quo rfl rfl rfl rfl (by omega) (by omega) (by simp only [hiK]; omega) ?_
      | refine q_index rfl rfl tabOk rfl rfl rfl (by omega) (by omega) ?_
      | refine q_convB rfl rfl tabOk rfl rfl rfl rfl ?_
      | refine q_conv rfl rfl tabOk rfl rfl rfl (by simp only [lowK, hiK]; omega) ?_)
    refine q_indexAddr (len := b.length) (i := k) rfl rfl tabOk rfl rfl rfl (by omega) (by omega) ?_
    repeat (first
      | refine stepQF_ok tabOk (m := 400) rfl ?_
      | refine stepQF_ok tabOk (m := 16) rfl ?_
      | refine stepQF_ok tabOk (m := 3) rfl ?_
      | refine stepQF_ok tabOk (m := 0) rfl ?_
      | refine q_load rfl rfl tabOk rfl rfl (fun _ hf => cell_fr (by assumption) hf id) ?_
      | refine q_loadB rfl rfl tabOk rfl rfl (by assumption) (by rfl) ?_
      | refine q_loadAggB rfl rfl tabOk rfl rfl (by assumption) (by rfl) ?_
      | refine q_arith rfl rfl rfl rfl rfl (by simp only [lowK, hiK]; omega) ?_
      | refine q_rem rfl rfl rfl rfl (by omega) (by omega) ?_
      | refine q_quo rfl rfl rfl rfl (by omega) (by omega) (by simp only [hiK]; omega) ?_
      | refine q_index rfl rfl tabOk rfl rfl rfl (by omega) (by omega) ?_
      | refine q_convB rfl rfl tabOk rfl rfl rfl rfl ?_
      | refine q_conv rfl rfl tabOk rfl rfl rfl (by simp only [lowK, hiK]; omega) ?_)
    refine q_end fun w3 hf3 => ?_
    refine ev_condD rfl (fun h3 => ?_) (fun h3 => ?_)
    · repeat (first
        | refine stepF_ok tabOk [] (m := 400) rfl ?_
        | refine stepF_ok tabOk [] (m := 16) rfl ?_
        | refine stepF_ok tabOk [] (m := 3) rfl ?_
        | refine stepF_ok tabOk [] (m := 0) rfl ?_
        | refine ev_load rfl rfl tabOk rfl rfl (by assumption) ?_
        | refine ev_loadB rfl rfl tabOk rfl rfl (by assumption) (by rfl) ?_
        | refine ev_loadAggB rfl rfl tabOk rfl rfl (by assumption) (by rfl) ?_
        | refine ev_arith rfl rfl rfl rfl rfl (by simp only [lowK, hiK]; omega) ?_
        | refine ev_rem rfl rfl rfl rfl (by omega) (by omega) ?_
        | refine ev_quo rfl rfl rfl rfl (by omega) (by omega) (by simp only [hiK]; omega) ?_
        | refine ev_index rfl rfl tabOk rfl rfl rfl (by omega) (by omega) ?_
        | refine ev_indexA rfl rfl tabOk rfl rfl rfl (by omega) (by omega) rfl ?_
        | refine ev_convB rfl rfl tabOk rfl rfl rfl rfl ?_
        | refine ev_conv rfl rfl tabOk rfl rfl rfl (by simp only [lowK, hiK]; omega) ?_)
      exact ret1 (.inr rfl) rfl rfl ⟨by rw [decide_eq_false (fun h => h3 (by rw [h]))], hf.tr hf3⟩
    · repeat (first
        | refine stepF_ok tabOk [] (m := 400) rfl ?_
        | refine stepF_ok tabOk [] (m := 16) rfl ?_
        | refine stepF_ok tabOk [] (m := 3) rfl ?_
        | refine stepF_ok tabOk [] (m := 0) rfl ?_
        | refine ev_load rfl rfl tabOk rfl rfl (by assumption) ?_
        | refine ev_loadB rfl rfl tabOk rfl rfl (by assumption) (by rfl) ?_
        | refine ev_loadAggB rfl rfl tabOk rfl rfl (by assumption) (by rfl) ?_
        | refine ev_arith rfl rfl rfl rfl rfl (by simp only [lowK, hiK]; omega) ?_
        | refine ev_rem rfl rfl rfl rfl (by omega) (by omega) ?_
        | refine ev_quo rfl rfl rfl rfl (by omega) (by omega) (by simp only [hiK]; omega) ?_
        | refine ev_index rfl rfl tabOk rfl rfl rfl (by omega) (by omega) ?_
        | refine ev_indexA rfl rfl tabOk rfl rfl rfl (by omega) (by omega) rfl ?_
        | refine ev_convB rfl rfl tabOk rfl rfl rfl rfl ?_
        | refine ev_conv rfl rfl tabOk rfl rfl rfl (by simp only [lowK, hiK]; omega) ?_)
      refine ev_next (k + 1) (by omega) ⟨by omega, fun i hi => ?_, hf.tr hf3⟩ ⟨rfl, rfl, rfl, trivial⟩
      by_cases e : i = k
      · subst e; exact Decidable.not_not.1 h3
      · exact hall i (by omega)
  · have hkn : k = a.length := by omega
    subst hkn
    repeat (first
      | refine stepF_ok tabOk [] (m := 400) rfl ?_
      | refine stepF_ok tabOk [] (m := 16) rfl ?_
      | refine stepF_ok tabOk [] (m := 3) rfl ?_
      | refine stepF_ok tabOk [] (m := 0) rfl ?_
      | refine ev_load rfl rfl tabOk rfl rfl (by assumption) ?_
      | refine ev_loadB rfl rfl tabOk rfl rfl (by assumption) (by rfl) ?_
      | refine ev_loadAggB rfl rfl tabOk rfl rfl (by assumption) (by rfl) ?_
      | refine ev_arith rfl rfl rfl rfl rfl (by simp only [lowK, hiK]; omega) ?_
      | refine ev_rem rfl rfl rfl rfl (by omega) (by omega) ?_
      | refine ev_quo rfl rfl rfl rfl (by omega) (by omega) (by simp only [hiK]; omega) ?_
      | refine ev_index rfl rfl tabOk rfl rfl rfl (by omega) (by omega) ?_
      | refine ev_indexA rfl rfl tabOk rfl rfl rfl (by omega) (by omega) rfl ?_
      | refine ev_convB rfl rfl tabOk rfl rfl rfl rfl ?_
      | refine ev_conv rfl rfl tabOk rfl rfl rfl (by simp only [lowK, hiK]; omega) ?_)
    have hab : a = b := List.ext_getElem h1 fun i hi hj => by
      have := hall i hi
      rw [List.getD_eq_getElem?_getD, List.getD_eq_getElem?_getD, List.getElem?_eq_getElem hi, List.getElem?_eq_getElem hj] at this
      exact this
    exact ret1 (.inr rfl) rfl rfl ⟨by rw [decide_eq_true hab], hf⟩
end Go.Wk.Ytjdfdahdobikmaa
