/-
  The walks of chapter 13: the program's Encode.
-/
import Derived.Test.YtjdfdahdobikmaaVoF
import Derived.Test.YtjdfdahdobikmaaJump
set_option linter.unusedVariables false
namespace Go.Wk.Ytjdfdahdobikmaa
open Go Go.Wk Go.Proofs

/-- a row of numbers of the call's own -/
abbrev OI (w : World) (a : Value) (l : List Int) : Prop := Own w 3 1 a l.length (l.map i64)
theorem OI.two {w : World} {a : Value} {l : List Int} (h : OI w a l) (h2 : 0 < l.length) : ∃ g cap cs, a = .slice (some ⟨g, 0, none⟩) l.length cap ∧ Blk w g cs 3 ∧ cs.length = cap ∧ l.length ≤ cap ∧ cs.take l.length = l.map i64 ∧ cap ≤ 9223372036854775807 := by
  rcases h.2 with ⟨rfl, h3⟩ | ⟨g, cap, cur, rfl, _, hg, hn, hc, hs, ht⟩
  · omega
  · rw [Nat.mul_one] at hs ht
    exact ⟨g, cap, cur.toList, rfl, hg, by simpa using hs, hn, ht, hc⟩
theorem OI.of {w : World} {g cap : Nat} {cs : List Value} {l : List Int} (h : Blk w g cs 3) (hl : cs.length = cap) (hn : l.length ≤ cap) (ht : cs.take l.length = l.map i64) (hc : cap ≤ 9223372036854775807) : OI w (.slice (some ⟨g, 0, none⟩) l.length cap) l :=
  ⟨by simp, .inr ⟨g, cap, ⟨cs⟩, rfl, Nat.zero_le _, h, hn, by unfold maxLen; omega, by simp [hl], by simpa using ht⟩⟩
theorem OI.cs {w : World} {a : Value} {l : List Int} (h : OI w a l) : ∃ A c, a = .slice A l.length c ∧ Cs w A (l.map i64) ∧ (A = none → c = 0) := by
  rcases h.2 with ⟨rfl, h3⟩ | ⟨g, cap, cur, rfl, _, hg, hn, hc, hs, ht⟩
  · have : l = [] := List.eq_nil_of_length_eq_zero h3
    subst this
    exact ⟨none, 0, rfl, Cs.nil _ _, fun _ => rfl⟩
  · obtain ⟨A, c, e, hC, _⟩ := h.slice
    cases e
    exact ⟨_, _, rfl, hC, fun e => by cases e⟩
theorem byte_drop {s : List UInt8} {k : Nat} (h : k < s.length) : (s.take ((k : Int) + 1).toNat).drop (k : Int).toNat = [s.getD k 0] := by
  rw [show ((k : Int) + 1).toNat = k + 1 by omega, Int.toNat_natCast, List.take_add_one, List.getElem?_eq_getElem h, List.drop_append]
  rw [List.drop_eq_nil_of_le (by simp; omega)]
  simp [List.getD_eq_getElem?_getD, List.getElem?_eq_getElem h, show min k s.length = k by omega]

abbrev encR (v : VV) (s : List UInt8) (a : Value) : Value := .tuple #[a, i64 (v.enc s).2.1, i64 (v.enc s).2.2]

set_option maxHeartbeats 4000000 in
theorem wEncode (A : Option Addr) (c : Nat) (B : Option Addr) (d : Nat) (v : VV) (s : List UInt8) (w : World) (hV : Vo w A B v) (hS : VS v) (hs : s.length ≤ 5000000) :
    CallsF Try.prog 17 [vv A c B d v, sv s] w fun r w' => (∃ a, r = encR v s a ∧ OI w' a (v.enc s).1 ∧ ∀ g, a.ownBlock = some g → w.heap.size ≤ g) ∧ Fr no w w' := by
  have hn := hS.merges
  have hnt := hS.texts
  refine callsF Try.func17 rfl rfl (by decide) rfl ?_
  refine stepF_ok tabOk [] (m := 3) rfl ?_
  refine ev_box rfl rfl rfl (fun p wb hp hB hfb => ?_)
  have hB : Blk wb p [.slice A v.texts.length c, .slice B v.merges.length d] 25 := hB
  have hzb := hfb.size
  repeat (first
    | refine stepF_ok tabOk [] (m := 400) rfl ?_
    | refine stepF_ok tabOk [] (m := 16) rfl ?_
    | refine stepF_ok tabOk [] (m := 3) rfl ?_
    | refine stepF_ok tabOk [] (m := 0) rfl ?_
    | refine ev_load rfl rfl tabOk rfl rfl (by assumption) ?_
    | refine ev_loadB rfl rfl tabOk rfl rfl (by assumption) (by rfl) ?_
    | refine ev_loadAggB rfl rfl tabOk rfl rfl (by assumption) (by rfl) ?_
    | refine ev_arith rfl rfl rfl rfl rfl (by simp only [lowK, hiK]; omega) ?_
    | refine ev_rem rfl rfl rfl rfl (by omega) (by omega) ?_
    | refine ev_quo rfl rfl rfl rfl (by omega) (by omega) (by simp only [hiK]; omega) ?_
    | refine ev_index rfl rfl tabOk rfl rfl rfl (by omega) (by omega) ?_
    | refine ev_indexA rfl rfl tabOk rfl rfl rfl (by omega) (by omega) rfl ?_
    | refine ev_convB rfl rfl tabOk rfl rfl rfl rfl ?_
    | refine ev_conv rfl rfl tabOk rfl rfl rfl (by simp only [lowK, hiK]; omega) ?_)
  refine ev_scopeP 0 (α := List Int × Value) (fun y => [(1, sv s), (2, .pointer (some ⟨p, 0, none⟩)), (12, y.2)])
    (fun y w' => v.chk.2 = 0 ∧ v.enc s = (v.red y.1, 0, 0) ∧ y.1.length ≤ s.length ∧ OI w' y.2 y.1 ∧ (∀ g, y.2.ownBlock = some g → p < g) ∧ Fr no w w' ∧ Blk w' p [.slice A v.texts.length c, .slice B v.merges.length d] 25) (fun y => y.1.length) (by rfl) ?_ ?_
  · intro JJ ⟨l, a⟩ w1 ⟨h0, he, hls, hO, hg, hf, hB⟩ hJJ
    simp only at he hls hO hg
    clear hzb
    have hpw : w.heap.size ≤ p := hp
    have hok := chk_ok h0
    repeat (first
      | refine stepF_ok tabOk [] (m := 400) rfl ?_
      | refine stepF_ok tabOk [] (m := 16) rfl ?_
      | refine stepF_ok tabOk [] (m := 3) rfl ?_
      | refine stepF_ok tabOk [] (m := 0) rfl ?_
      | refine ev_load rfl rfl tabOk rfl rfl (by assumption) ?_
      | refine ev_loadB rfl rfl tabOk rfl rfl (by assumption) (by rfl) ?_
      | refine ev_loadAggB rfl rfl tabOk rfl rfl (by assumption) (by rfl) ?_
      | refine ev_arith rfl rfl rfl rfl rfl (by simp only [lowK, hiK]; omega) ?_
      | refine ev_rem rfl rfl rfl rfl (by omega) (by omega) ?_
      | refine ev_quo rfl rfl rfl rfl (by omega) (by omega) (by simp only [hiK]; omega) ?_
      | refine ev_index rfl rfl tabOk rfl rfl rfl (by omega) (by omega) ?_
      | refine ev_indexA rfl rfl tabOk rfl rfl rfl (by omega) (by omega) rfl ?_
      | refine ev_convB rfl rfl tabOk rfl rfl rfl rfl ?_
      | refine ev_conv rfl rfl tabOk rfl rfl rfl (by simp only [lowK, hiK]; omega) ?_)
    refine ev_loop (α := Nat) (fun r => [(1, sv s), (2, .pointer (some ⟨p, 0, none⟩)), (12, a), (65, .slice B v.merges.length d), (66, i64 v.merges.length), (67, i64 r)])
      (fun r w' => r ≤ v.merges.length ∧ (∀ j, j < r → ¬ v.at l j < l.length) ∧ OI w' a l ∧ Fr no w w' ∧ Blk w' p [.slice A v.texts.length c, .slice B v.merges.length d] 25) (fun r => v.merges.length - r) 0 ⟨rfl, rfl, rfl, rfl, rfl, rfl, trivial⟩ ⟨Nat.zero_le _, fun j h => by omega, hO, hf, hB⟩ ?_
    clear hO hf hB
    rintro r w2 ⟨hr, hnoR, hO, hf, hB⟩
    repeat (first
      | refine stepF_ok tabOk [] (m := 400) rfl ?_
      | refine stepF_ok tabOk [] (m := 16) rfl ?_
      | refine stepF_ok tabOk [] (m := 3) rfl ?_
      | refine stepF_ok tabOk [] (m := 0) rfl ?_
      | refine ev_load rfl rfl tabOk rfl rfl (by assumption) ?_
      | refine ev_loadB rfl rfl tabOk rfl rfl (by assumption) (by rfl) ?_
      | refine ev_loadAggB rfl rfl tabOk rfl rfl (by assumption) (by rfl) ?_
      | refine ev_arith rfl rfl rfl rfl rfl (by simp only [lowK, hiK]; omega) ?_
      | refine ev_rem rfl rfl rfl rfl (by omega) (by omega) ?_
      | refine ev_quo rfl rfl rfl rfl (by omega) (by omega) (by simp only [hiK]; omega) ?_
      | refine ev_index rfl rfl tabOk rfl rfl rfl (by omega) (by omega) ?_
      | refine ev_indexA rfl rfl tabOk rfl rfl rfl (by omega) (by omega) rfl ?_
      | refine ev_convB rfl rfl tabOk rfl rfl rfl rfl ?_
      | refine ev_conv rfl rfl tabOk rfl rfl rfl (by simp only [lowK, hiK]; omega) ?_)
    refine ev_condD rfl (fun hlt => ?_) (fun hlt => ?_)
    · have hr1 : r < v.merges.length := by omega
      obtain ⟨g, o, e1, hcx⟩ := mrgs_at (hV.fr0 hf).2 hr1
      subst e1
      have hcx : Cs w2 (some ⟨g, o + (r : Int).toNat * 3, none⟩) (mrg1 (v.m r)) := hcx
      repeat (first
        | refine stepF_ok tabOk [] (m := 400) rfl ?_
        | refine stepF_ok tabOk [] (m := 16) rfl ?_
        | refine stepF_ok tabOk [] (m := 3) rfl ?_
        | refine stepF_ok tabOk [] (m := 0) rfl ?_
        | refine ev_load rfl rfl tabOk rfl rfl (by assumption) ?_
        | refine ev_loadB rfl rfl tabOk rfl rfl (by assumption) (by rfl) ?_
        | refine ev_loadAggB rfl rfl tabOk rfl rfl (by assumption) (by rfl) ?_
        | refine ev_arith rfl rfl rfl rfl rfl (by simp only [lowK, hiK]; omega) ?_
        | refine ev_rem rfl rfl rfl rfl (by omega) (by omega) ?_
        | refine ev_quo rfl rfl rfl rfl (by omega) (by omega) (by simp only [hiK]; omega) ?_
        | refine ev_index rfl rfl tabOk rfl rfl rfl (by omega) (by omega) ?_
        | refine ev_indexA rfl rfl tabOk rfl rfl rfl (by omega) (by omega) rfl ?_
        | refine ev_convB rfl rfl tabOk rfl rfl rfl rfl ?_
        | refine ev_conv rfl rfl tabOk rfl rfl rfl (by simp only [lowK, hiK]; omega) ?_)
      refine ev_indexAddr (len := v.merges.length) (i := r) rfl rfl tabOk rfl rfl rfl (by omega) (by omega) ?_
      refine ev_loadAgg rfl rfl tabOk rfl rfl rfl hcx ?_
      refine ev_alloc rfl rfl inf51 (fun q w3 hq hQ hf3 => ?_)
      refine ev_storeAgg tabOk rfl rfl rfl rfl rfl rfl hQ rfl (fun w4 hQ4 hf4 => ?_)
      have hQ4 : Blk w4 q [i64 (v.m r).1, i64 (v.m r).2.1, i64 (v.m r).2.2] 51 := hQ4
      have hf24 : Fr no w2 w4 := old hf3 (by omega) hf4
      have hB4 := hB.fr0 hf24
      have hO4 := hO.fr0 hf24
      have hf04 := hf.tr hf24
      have hga : ∀ g', a.ownBlock = some g' → g' < q := fun g' hg' => by have := hO.lt hg'; omega
      have hpq : p < q := by have := hB.lt; omega
      clear hQ hf3 hf4 hcx hB hO hf hf24
      repeat (first
        | refine stepF_ok tabOk [] (m := 400) rfl ?_
        | refine stepF_ok tabOk [] (m := 16) rfl ?_
        | refine stepF_ok tabOk [] (m := 3) rfl ?_
        | refine stepF_ok tabOk [] (m := 0) rfl ?_
        | refine ev_load rfl rfl tabOk rfl rfl (by assumption) ?_
        | refine ev_loadB rfl rfl tabOk rfl rfl (by assumption) (by rfl) ?_
        | refine ev_loadAggB rfl rfl tabOk rfl rfl (by assumption) (by rfl) ?_
        | refine ev_arith rfl rfl rfl rfl rfl (by simp only [lowK, hiK]; omega) ?_
        | refine ev_rem rfl rfl rfl rfl (by omega) (by omega) ?_
        | refine ev_quo rfl rfl rfl rfl (by omega) (by omega) (by simp only [hiK]; omega) ?_
        | refine ev_index rfl rfl tabOk rfl rfl rfl (by omega) (by omega) ?_
        | refine ev_indexA rfl rfl tabOk rfl rfl rfl (by omega) (by omega) rfl ?_
        | refine ev_convB rfl rfl tabOk rfl rfl rfl rfl ?_
        | refine ev_conv rfl rfl tabOk rfl rfl rfl (by simp only [lowK, hiK]; omega) ?_)
      refine ev_loop (α := Nat) (fun i => [(1, sv s), (2, .pointer (some ⟨p, 0, none⟩)), (12, a), (65, .slice (some ⟨g, o, none⟩) v.merges.length d), (66, i64 v.merges.length), (67, i64 r), (17, .pointer (some ⟨q, 0, none⟩)), (18, i64 i)])
        (fun i w' => i ≤ l.length ∧ (∀ j, j < i → ¬ v.mAt l r j) ∧ OI w' a l ∧ Fr no w w' ∧ Blk w' p [.slice A v.texts.length c, .slice (some ⟨g, o, none⟩) v.merges.length d] 25 ∧ Blk w' q [i64 (v.m r).1, i64 (v.m r).2.1, i64 (v.m r).2.2] 51) (fun i => l.length - i) 0 ⟨rfl, rfl, rfl, rfl, rfl, rfl, rfl, rfl, trivial⟩ ⟨Nat.zero_le _, fun j h => by omega, hO4, hf04, hB4, hQ4⟩ ?_
      clear hO4 hf04 hB4 hQ4
      rintro i w5 ⟨hi, hnoI, hO, hf, hB, hQ⟩
      repeat (first
        | refine stepF_ok tabOk [] (m := 400) rfl ?_
        | refine stepF_ok tabOk [] (m := 16) rfl ?_
        | refine stepF_ok tabOk [] (m := 3) rfl ?_
        | refine stepF_ok tabOk [] (m := 0) rfl ?_
        | refine ev_load rfl rfl tabOk rfl rfl (by assumption) ?_
        | refine ev_loadB rfl rfl tabOk rfl rfl (by assumption) (by rfl) ?_
        | refine ev_loadAggB rfl rfl tabOk rfl rfl (by assumption) (by rfl) ?_
        | refine ev_arith rfl rfl rfl rfl rfl (by simp only [lowK, hiK]; omega) ?_
        | refine ev_rem rfl rfl rfl rfl (by omega) (by omega) ?_
        | refine ev_quo rfl rfl rfl rfl (by omega) (by omega) (by simp only [hiK]; omega) ?_
        | refine ev_index rfl rfl tabOk rfl rfl rfl (by omega) (by omega) ?_
        | refine ev_indexA rfl rfl tabOk rfl rfl rfl (by omega) (by omega) rfl ?_
        | refine ev_convB rfl rfl tabOk rfl rfl rfl rfl ?_
        | refine ev_conv rfl rfl tabOk rfl rfl rfl (by simp only [lowK, hiK]; omega) ?_)
      obtain ⟨A1, c1, ea, hC, _⟩ := hO.cs
      subst ea
      repeat (first
        | refine stepF_ok tabOk [] (m := 400) rfl ?_
        | refine stepF_ok tabOk [] (m := 16) rfl ?_
        | refine stepF_ok tabOk [] (m := 3) rfl ?_
        | refine stepF_ok tabOk [] (m := 0) rfl ?_
        | refine ev_load rfl rfl tabOk rfl rfl (by assumption) ?_
        | refine ev_loadB rfl rfl tabOk rfl rfl (by assumption) (by rfl) ?_
        | refine ev_loadAggB rfl rfl tabOk rfl rfl (by assumption) (by rfl) ?_
        | refine ev_arith rfl rfl rfl rfl rfl (by simp only [lowK, hiK]; omega) ?_
        | refine ev_rem rfl rfl rfl rfl (by omega) (by omega) ?_
        | refine ev_quo rfl rfl rfl rfl (by omega) (by omega) (by simp only [hiK]; omega) ?_
        | refine ev_index rfl rfl tabOk rfl rfl rfl (by omega) (by omega) ?_
        | refine ev_indexA rfl rfl tabOk rfl rfl rfl (by omega) (by omega) rfl ?_
        | refine ev_convB rfl rfl tabOk rfl rfl rfl rfl ?_
        | refine ev_conv rfl rfl tabOk rfl rfl rfl (by simp only [lowK, hiK]; omega) ?_)
      refine ev_condD rfl (fun h2 => ?_) (fun h2 => ?_)
      · obtain ⟨ga, oa, e1, hx1⟩ := ints_at hC (j := i) (by omega)
        subst e1
        have hx2 : w5.cell? ⟨ga, oa + ((i : Int) + 1).toNat * 1, none⟩ = some (i64 (l.getD (i + 1) 0)) := by
          obtain ⟨g', o', e', hc'⟩ := ints_at hC (j := i + 1) (by omega)
          cases e'
          rw [show ((i : Int) + 1).toNat = ((i + 1 : Nat) : Int).toNat by omega]; exact hc'
        repeat (first
          | refine stepF_ok tabOk [] (m := 400) rfl ?_
          | refine stepF_ok tabOk [] (m := 16) rfl ?_
          | refine stepF_ok tabOk [] (m := 3) rfl ?_
          | refine stepF_ok tabOk [] (m := 0) rfl ?_
          | refine ev_load rfl rfl tabOk rfl rfl (by assumption) ?_
          | refine ev_loadB rfl rfl tabOk rfl rfl (by assumption) (by rfl) ?_
          | refine ev_loadAggB rfl rfl tabOk rfl rfl (by assumption) (by rfl) ?_
          | refine ev_arith rfl rfl rfl rfl rfl (by simp only [lowK, hiK]; omega) ?_
          | refine ev_rem rfl rfl rfl rfl (by omega) (by omega) ?_
          | refine ev_quo rfl rfl rfl rfl (by omega) (by omega) (by simp only [hiK]; omega) ?_
          | refine ev_index rfl rfl tabOk rfl rfl rfl (by omega) (by omega) ?_
          | refine ev_indexA rfl rfl tabOk rfl rfl rfl (by omega) (by omega) rfl ?_
          | refine ev_convB rfl rfl tabOk rfl rfl rfl rfl ?_
          | refine ev_conv rfl rfl tabOk rfl rfl rfl (by simp only [lowK, hiK]; omega) ?_)
        refine ev_draw mixed (by kernel_rfl) ?_
        repeat (first
          | refine stepQF_ok tabOk (m := 400) rfl ?_
          | refine stepQF_ok tabOk (m := 16) rfl ?_
          | refine stepQF_ok tabOk (m := 3) rfl ?_
          | refine stepQF_ok tabOk (m := 0) rfl ?_
          | refine q_load rfl rfl tabOk rfl rfl (fun _ hf => cell_fr (by assumption) hf id) ?_
          | refine q_loadB rfl rfl tabOk rfl rfl (by assumption) (by rfl) ?_
          | refine q_loadAggB rfl rfl tabOk rfl rfl (by assumption) (by rfl) ?_
          | refine q_arith rfl rfl rfl rfl rfl (by simp only [lowK, hiK]; omega) ?_
          | refine q_rem rfl rfl rfl rfl (by omega) (by omega) ?_
          | refine q_quo rfl rfl rfl rfl (by omega) (by omega) (by simp only [hiK]; omega) ?_
          | refine q_index rfl rfl tabOk rfl rfl rfl (by omega) (by omega) ?_
          | refine q_convB rfl rfl tabOk rfl rfl rfl rfl ?_
          | refine q_conv rfl rfl tabOk rfl rfl rfl (by simp only [lowK, hiK]; omega) ?_)
        refine q_indexAddr (len := l.length) (i := i) rfl rfl tabOk rfl rfl rfl (by omega) (by omega) ?_
        repeat (first
          | refine stepQF_ok tabOk (m := 400) rfl ?_
          | refine stepQF_ok tabOk (m := 16) rfl ?_
          | refine stepQF_ok tabOk (m := 3) rfl ?_
          | refine stepQF_ok tabOk (m := 0) rfl ?_
          | refine q_load rfl rfl tabOk rfl rfl (fun _ hf => cell_fr (by assumption) hf id) ?_
          | refine q_loadB rfl rfl tabOk rfl rfl (by assumption) (by rfl) ?_
          | refine q_loadAggB rfl rfl tabOk rfl rfl (by assumption) (by rfl) ?_
          | refine q_arith rfl rfl rfl rfl rfl (by simp only [lowK, hiK]; omega) ?_
          | refine q_rem rfl rfl rfl rfl (by omega) (by omega) ?_
          | refine q_quo rfl rfl rfl rfl (by omega) (by omega) (by simp only [hiK]; omega) ?_
          | refine q_index rfl rfl tabOk rfl rfl rfl (by omega) (by omega) ?_
          | refine q_convB rfl rfl tabOk rfl rfl rfl rfl ?_
          | refine q_conv rfl rfl tabOk rfl rfl rfl (by simp only [lowK, hiK]; omega) ?_)
        by_cases m1 : l.getD i 0 = (v.m r).1
        · rw [decide_eq_true m1]
          repeat (first
            | refine stepQF_ok tabOk (m := 400) rfl ?_
            | refine stepQF_ok tabOk (m := 16) rfl ?_
            | refine stepQF_ok tabOk (m := 3) rfl ?_
            | refine stepQF_ok tabOk (m := 0) rfl ?_
            | refine q_load rfl rfl tabOk rfl rfl (fun _ hf => cell_fr (by assumption) hf id) ?_
            | refine q_loadB rfl rfl tabOk rfl rfl (by assumption) (by rfl) ?_
            | refine q_loadAggB rfl rfl tabOk rfl rfl (by assumption) (by rfl) ?_
            | refine q_arith rfl rfl rfl rfl rfl (by simp only [lowK, hiK]; omega) ?_
            | refine q_rem rfl rfl rfl rfl (by omega) (by omega) ?_
            | refine q_quo rfl rfl rfl rfl (by omega) (by omega) (by simp only [hiK]; omega) ?_
            | refine q_index rfl rfl tabOk rfl rfl rfl (by omega) (by omega) ?_
            | refine q_convB rfl rfl tabOk rfl rfl rfl rfl ?_
            | refine q_conv rfl rfl tabOk rfl rfl rfl (by simp only [lowK, hiK]; omega) ?_)
          refine q_indexAddr (len := l.length) (i := (i : Int) + 1) rfl rfl tabOk rfl rfl rfl (by omega) (by omega) ?_
          repeat (first
            | refine stepQF_ok tabOk (m := 400) rfl ?_
            | refine stepQF_ok tabOk (m := 16) rfl ?_
            | refine stepQF_ok tabOk (m := 3) rfl ?_
            | refine stepQF_ok tabOk (m := 0) rfl ?_
            | refine q_load rfl rfl tabOk rfl rfl (fun _ hf => cell_fr (by assumption) hf id) ?_
            | refine q_loadB rfl rfl tabOk rfl rfl (by assumption) (by rfl) ?_
            | refine q_loadAggB rfl rfl tabOk rfl rfl (by assumption) (by rfl) ?_
            | refine q_arith rfl rfl rfl rfl rfl (by simp only [lowK, hiK]; omega) ?_
            | refine q_rem rfl rfl rfl rfl (by omega) (by omega) ?_
            | refine q_quo rfl rfl rfl rfl (by omega) (by omega) (by simp only [hiK]; omega) ?_
            | refine q_index rfl rfl tabOk rfl rfl rfl (by omega) (by omega) ?_
            | refine q_convB rfl rfl tabOk rfl rfl rfl rfl ?_
            | refine q_conv rfl rfl tabOk rfl rfl rfl (by simp only [lowK, hiK]; omega) ?_)
          refine q_end fun w6 hf6 => ?_
          have hB6 := hB.fr0 hf6
          have hQ6 := hQ.fr0 hf6
          have hO6 := hO.fr0 hf6
          have hf06 := hf.tr hf6
          clear hB hQ hO hf hC hx1 hx2
          refine ev_condD rfl (fun m2 => ?_) (fun m2 => ?_)
          · have hmA : v.mAt l r i := ⟨by omega, m1, m2⟩
            have hat := at_is hmA hnoI
            have hrk := rk_is hr1 (by rw [hat]; omega) hnoR
            have hnx : v.nxt l = l.take i ++ [(v.m r).2.2] ++ l.drop (i + 2) := by unfold VV.nxt; rw [hrk, hat]
            have hnl := nxt_len (v := v) (l := l) (by rw [hrk]; exact hr1)
            have hred := red_yes (v := v) (l := l) (by rw [hrk]; exact hr1)
            obtain ⟨g6, cap, cs, e6, hG, hcs, hcl, hct, hcm⟩ := OI.two hO6 (by omega)
            cases e6
            have hga6 : ga < q := hga _ rfl
            have hg6 : p < ga := hg _ rfl
            repeat (first
              | refine stepF_ok tabOk [] (m := 400) rfl ?_
              | refine stepF_ok tabOk [] (m := 16) rfl ?_
              | refine stepF_ok tabOk [] (m := 3) rfl ?_
              | refine stepF_ok tabOk [] (m := 0) rfl ?_
              | refine ev_load rfl rfl tabOk rfl rfl (by assumption) ?_
              | refine ev_loadB rfl rfl tabOk rfl rfl (by assumption) (by rfl) ?_
              | refine ev_loadAggB rfl rfl tabOk rfl rfl (by assumption) (by rfl) ?_
              | refine ev_arith rfl rfl rfl rfl rfl (by simp only [lowK, hiK]; omega) ?_
              | refine ev_rem rfl rfl rfl rfl (by omega) (by omega) ?_
              | refine ev_quo rfl rfl rfl rfl (by omega) (by omega) (by simp only [hiK]; omega) ?_
              | refine ev_index rfl rfl tabOk rfl rfl rfl (by omega) (by omega) ?_
              | refine ev_indexA rfl rfl tabOk rfl rfl rfl (by omega) (by omega) rfl ?_
              | refine ev_convB rfl rfl tabOk rfl rfl rfl rfl ?_
              | refine ev_conv rfl rfl tabOk rfl rfl rfl (by simp only [lowK, hiK]; omega) ?_)
            refine ev_buildSlice tabOk rfl rfl rfl inf3 rfl rfl rfl (by simp [Value.cells]) rfl (fun q7 w7 hq7 hb7 hf7 => ?_)
            have hb7 : Blk w7 q7 [i64 (v.m r).2.2] 3 := hb7
            have hG7 := hG.fr0 hf7
            have hB7 := hB6.fr0 hf7
            have hf07 := hf06.tr hf7
            have hgl := hG.lt
            clear hG hf7 hB6 hf06
            refine ev_call rfl rfl rfl (wReplace ga c1 l.length i q7 l cs (v.m r).2.2 w7 hG7 hcs hcl rfl hct (by omega) hb7 (by omega) (by omega)) (fun u w8 hu => ?_)
            obtain ⟨cs', rfl, hG8, hl8, ht8, hf8⟩ := hu
            rw [← hnx] at ht8
            have hln : l.length - 1 = (v.nxt l).length := by omega
            rw [hln] at ht8 ⊢
            have hO8 : OI w8 (.slice (some ⟨ga, 0, none⟩) (v.nxt l).length c1) (v.nxt l) := OI.of hG8 hl8 (by omega) ht8 (by omega)
            repeat (first
              | refine stepF_ok tabOk [] (m := 400) rfl ?_
              | refine stepF_ok tabOk [] (m := 16) rfl ?_
              | refine stepF_ok tabOk [] (m := 3) rfl ?_
              | refine stepF_ok tabOk [] (m := 0) rfl ?_
              | refine ev_load rfl rfl tabOk rfl rfl (by assumption) ?_
              | refine ev_loadB rfl rfl tabOk rfl rfl (by assumption) (by rfl) ?_
              | refine ev_loadAggB rfl rfl tabOk rfl rfl (by assumption) (by rfl) ?_
              | refine ev_arith rfl rfl rfl rfl rfl (by simp only [lowK, hiK]; omega) ?_
              | refine ev_rem rfl rfl rfl rfl (by omega) (by omega) ?_
              | refine ev_quo rfl rfl rfl rfl (by omega) (by omega) (by simp only [hiK]; omega) ?_
              | refine ev_index rfl rfl tabOk rfl rfl rfl (by omega) (by omega) ?_
              | refine ev_indexA rfl rfl tabOk rfl rfl rfl (by omega) (by omega) rfl ?_
              | refine ev_convB rfl rfl tabOk rfl rfl rfl rfl ?_
              | refine ev_conv rfl rfl tabOk rfl rfl rfl (by simp only [lowK, hiK]; omega) ?_)
            refine ev_jumpP fun ac hA => ?_
            refine hJJ (v.nxt l, .slice (some ⟨ga, 0, none⟩) (v.nxt l).length c1) _ w8 ac (by simp only; omega) ⟨h0, by rw [he, hred], by simp only; omega, hO8, fun g' hg' => ?_, hf07.trans hf8 (fun b hb e => by have : b = ga := e; omega), hB7.fr hf8 (fun e => by have : p = ga := e; omega)⟩ ⟨rfl, rfl, rfl, trivial⟩ hA
            simp only [Value.ownBlock, Option.some.injEq] at hg'
            omega
          · repeat (first
              | refine stepF_ok tabOk [] (m := 400) rfl ?_
              | refine stepF_ok tabOk [] (m := 16) rfl ?_
              | refine stepF_ok tabOk [] (m := 3) rfl ?_
              | refine stepF_ok tabOk [] (m := 0) rfl ?_
              | refine ev_load rfl rfl tabOk rfl rfl (by assumption) ?_
              | refine ev_loadB rfl rfl tabOk rfl rfl (by assumption) (by rfl) ?_
              | refine ev_loadAggB rfl rfl tabOk rfl rfl (by assumption) (by rfl) ?_
              | refine ev_arith rfl rfl rfl rfl rfl (by simp only [lowK, hiK]; omega) ?_
              | refine ev_rem rfl rfl rfl rfl (by omega) (by omega) ?_
              | refine ev_quo rfl rfl rfl rfl (by omega) (by omega) (by simp only [hiK]; omega) ?_
              | refine ev_index rfl rfl tabOk rfl rfl rfl (by omega) (by omega) ?_
              | refine ev_indexA rfl rfl tabOk rfl rfl rfl (by omega) (by omega) rfl ?_
              | refine ev_convB rfl rfl tabOk rfl rfl rfl rfl ?_
              | refine ev_conv rfl rfl tabOk rfl rfl rfl (by simp only [lowK, hiK]; omega) ?_)
            refine ev_next (i + 1) (by omega) ⟨by omega, fun j hj => ?_, hO6, hf06, hB6, hQ6⟩ ⟨rfl, rfl, rfl, rfl, rfl, rfl, rfl, rfl, trivial⟩
            by_cases e : j = i
            · subst e; exact fun h => m2 h.2.2
            · exact hnoI j (by omega)
        · rw [decide_eq_false m1]
          repeat (first
            | refine stepQF_ok tabOk (m := 400) rfl ?_
            | refine stepQF_ok tabOk (m := 16) rfl ?_
            | refine stepQF_ok tabOk (m := 3) rfl ?_
            | refine stepQF_ok tabOk (m := 0) rfl ?_
            | refine q_load rfl rfl tabOk rfl rfl (fun _ hf => cell_fr (by assumption) hf id) ?_
            | refine q_loadB rfl rfl tabOk rfl rfl (by assumption) (by rfl) ?_
            | refine q_loadAggB rfl rfl tabOk rfl rfl (by assumption) (by rfl) ?_
            | refine q_arith rfl rfl rfl rfl rfl (by simp only [lowK, hiK]; omega) ?_
            | refine q_rem rfl rfl rfl rfl (by omega) (by omega) ?_
            | refine q_quo rfl rfl rfl rfl (by omega) (by omega) (by simp only [hiK]; omega) ?_
            | refine q_index rfl rfl tabOk rfl rfl rfl (by omega) (by omega) ?_
            | refine q_convB rfl rfl tabOk rfl rfl rfl rfl ?_
            | refine q_conv rfl rfl tabOk rfl rfl rfl (by simp only [lowK, hiK]; omega) ?_)
          refine q_end fun w6 hf6 => ?_
          repeat (first
            | refine stepF_ok tabOk [] (m := 400) rfl ?_
            | refine stepF_ok tabOk [] (m := 16) rfl ?_
            | refine stepF_ok tabOk [] (m := 3) rfl ?_
            | refine stepF_ok tabOk [] (m := 0) rfl ?_
            | refine ev_load rfl rfl tabOk rfl rfl (by assumption) ?_
            | refine ev_loadB rfl rfl tabOk rfl rfl (by assumption) (by rfl) ?_
            | refine ev_loadAggB rfl rfl tabOk rfl rfl (by assumption) (by rfl) ?_
            | refine ev_arith rfl rfl rfl rfl rfl (by simp only [lowK, hiK]; omega) ?_
            | refine ev_rem rfl rfl rfl rfl (by omega) (by omega) ?_
            | refine ev_quo rfl rfl rfl rfl (by omega) (by omega) (by simp only [hiK]; omega) ?_
            | refine ev_index rfl rfl tabOk rfl rfl rfl (by omega) (by omega) ?_
            | refine ev_indexA rfl rfl tabOk rfl rfl rfl (by omega) (by omega) rfl ?_
            | refine ev_convB rfl rfl tabOk rfl rfl rfl rfl ?_
            | refine ev_conv rfl rfl tabOk rfl rfl rfl (by simp only [lowK, hiK]; omega) ?_)
          refine ev_next (i + 1) (by omega) ⟨by omega, fun j hj => ?_, hO.fr0 hf6, hf.tr hf6, hB.fr0 hf6, hQ.fr0 hf6⟩ ⟨rfl, rfl, rfl, rfl, rfl, rfl, rfl, rfl, trivial⟩
          by_cases e : j = i
          · subst e; exact fun h => m1 h.2.1
          · exact hnoI j (by omega)
      · repeat (first
          | refine stepF_ok tabOk [] (m := 400) rfl ?_
          | refine stepF_ok tabOk [] (m := 16) rfl ?_
          | refine stepF_ok tabOk [] (m := 3) rfl ?_
          | refine stepF_ok tabOk [] (m := 0) rfl ?_
          | refine ev_load rfl rfl tabOk rfl rfl (by assumption) ?_
          | refine ev_loadB rfl rfl tabOk rfl rfl (by assumption) (by rfl) ?_
          | refine ev_loadAggB rfl rfl tabOk rfl rfl (by assumption) (by rfl) ?_
          | refine ev_arith rfl rfl rfl rfl rfl (by simp only [lowK, hiK]; omega) ?_
          | refine ev_rem rfl rfl rfl rfl (by omega) (by omega) ?_
          | refine ev_quo rfl rfl rfl rfl (by omega) (by omega) (by simp only [hiK]; omega) ?_
          | refine ev_index rfl rfl tabOk rfl rfl rfl (by omega) (by omega) ?_
          | refine ev_indexA rfl rfl tabOk rfl rfl rfl (by omega) (by omega) rfl ?_
          | refine ev_convB rfl rfl tabOk rfl rfl rfl rfl ?_
          | refine ev_conv rfl rfl tabOk rfl rfl rfl (by simp only [lowK, hiK]; omega) ?_)
        refine ev_next (r + 1) (by omega) ⟨by omega, fun j hj => ?_, hO, hf, hB⟩ ⟨rfl, rfl, rfl, rfl, rfl, rfl, trivial⟩
        by_cases e : j = r
        · subst e
          have := at_no (v := v) (l := l) (r := j) (fun x hx h => by
            by_cases hxi : x < i
            · exact hnoI x hxi h
            · have := h.1; omega)
          omega
        · exact hnoR j (by omega)
    · have hrn : r = v.merges.length := by omega
      subst hrn
      have hrk := rk_no hnoR
      have hred := red_no (v := v) (l := l) (by omega)
      obtain ⟨A1, c1, ea, hC, h1⟩ := hO.cs
      subst ea
      repeat (first
        | refine stepF_ok tabOk [] (m := 400) rfl ?_
        | refine stepF_ok tabOk [] (m := 16) rfl ?_
        | refine stepF_ok tabOk [] (m := 3) rfl ?_
        | refine stepF_ok tabOk [] (m := 0) rfl ?_
        | refine ev_load rfl rfl tabOk rfl rfl (by assumption) ?_
        | refine ev_loadB rfl rfl tabOk rfl rfl (by assumption) (by rfl) ?_
        | refine ev_loadAggB rfl rfl tabOk rfl rfl (by assumption) (by rfl) ?_
        | refine ev_arith rfl rfl rfl rfl rfl (by simp only [lowK, hiK]; omega) ?_
        | refine ev_rem rfl rfl rfl rfl (by omega) (by omega) ?_
        | refine ev_quo rfl rfl rfl rfl (by omega) (by omega) (by simp only [hiK]; omega) ?_
        | refine ev_index rfl rfl tabOk rfl rfl rfl (by omega) (by omega) ?_
        | refine ev_indexA rfl rfl tabOk rfl rfl rfl (by omega) (by omega) rfl ?_
        | refine ev_convB rfl rfl tabOk rfl rfl rfl rfl ?_
        | refine ev_conv rfl rfl tabOk rfl rfl rfl (by simp only [lowK, hiK]; omega) ?_)
      refine ev_call rfl rfl rfl (wClone A1 c1 l _ hC (by omega) h1) (fun u w3 hu => ?_)
      obtain ⟨hO3, hg3, hf3⟩ := hu
      repeat (first
        | refine stepF_ok tabOk [] (m := 400) rfl ?_
        | refine stepF_ok tabOk [] (m := 16) rfl ?_
        | refine stepF_ok tabOk [] (m := 3) rfl ?_
        | refine stepF_ok tabOk [] (m := 0) rfl ?_
        | refine ev_load rfl rfl tabOk rfl rfl (by assumption) ?_
        | refine ev_loadB rfl rfl tabOk rfl rfl (by assumption) (by rfl) ?_
        | refine ev_loadAggB rfl rfl tabOk rfl rfl (by assumption) (by rfl) ?_
        | refine ev_arith rfl rfl rfl rfl rfl (by simp only [lowK, hiK]; omega) ?_
        | refine ev_rem rfl rfl rfl rfl (by omega) (by omega) ?_
        | refine ev_quo rfl rfl rfl rfl (by omega) (by omega) (by simp only [hiK]; omega) ?_
        | refine ev_index rfl rfl tabOk rfl rfl rfl (by omega) (by omega) ?_
        | refine ev_indexA rfl rfl tabOk rfl rfl rfl (by omega) (by omega) rfl ?_
        | refine ev_convB rfl rfl tabOk rfl rfl rfl rfl ?_
        | refine ev_conv rfl rfl tabOk rfl rfl rfl (by simp only [lowK, hiK]; omega) ?_)
      refine retG tabOk (.inr rfl) rfl [u, i64 0, i64 0] ⟨rfl, rfl, rfl, trivial⟩ ⟨⟨u, by unfold encR; rw [he]; rfl, by rw [he, hred]; exact hO3, fun g hg' => by have := hg3 g hg'; have := hf.size; omega⟩, hf.tr hf3⟩
  · intro rest
    repeat (first
      | refine stepF_ok tabOk [] (m := 400) rfl ?_
      | refine stepF_ok tabOk [] (m := 16) rfl ?_
      | refine stepF_ok tabOk [] (m := 3) rfl ?_
      | refine stepF_ok tabOk [] (m := 0) rfl ?_
      | refine ev_load rfl rfl tabOk rfl rfl (by assumption) ?_
      | refine ev_loadB rfl rfl tabOk rfl rfl (by assumption) (by rfl) ?_
      | refine ev_loadAggB rfl rfl tabOk rfl rfl (by assumption) (by rfl) ?_
      | refine ev_arith rfl rfl rfl rfl rfl (by simp only [lowK, hiK]; omega) ?_
      | refine ev_rem rfl rfl rfl rfl (by omega) (by omega) ?_
      | refine ev_quo rfl rfl rfl rfl (by omega) (by omega) (by simp only [hiK]; omega) ?_
      | refine ev_index rfl rfl tabOk rfl rfl rfl (by omega) (by omega) ?_
      | refine ev_indexA rfl rfl tabOk rfl rfl rfl (by omega) (by omega) rfl ?_
      | refine ev_convB rfl rfl tabOk rfl rfl rfl rfl ?_
      | refine ev_conv rfl rfl tabOk rfl rfl rfl (by simp only [lowK, hiK]; omega) ?_)
    refine ev_call rfl rfl rfl (wCheck A c B d v _ (hV.fr0 hfb) hS) (fun r w1 hr => ?_)
    obtain ⟨rfl, hf1⟩ := hr
    have hB1 := hB.fr0 hf1
    have hf01 := hfb.tr hf1
    clear hB hfb hf1
    repeat (first
      | refine stepF_ok tabOk [] (m := 400) rfl ?_
      | refine stepF_ok tabOk [] (m := 16) rfl ?_
      | refine stepF_ok tabOk [] (m := 3) rfl ?_
      | refine stepF_ok tabOk [] (m := 0) rfl ?_
      | refine ev_load rfl rfl tabOk rfl rfl (by assumption) ?_
      | refine ev_loadB rfl rfl tabOk rfl rfl (by assumption) (by rfl) ?_
      | refine ev_loadAggB rfl rfl tabOk rfl rfl (by assumption) (by rfl) ?_
      | refine ev_arith rfl rfl rfl rfl rfl (by simp only [lowK, hiK]; omega) ?_
      | refine ev_rem rfl rfl rfl rfl (by omega) (by omega) ?_
      | refine ev_quo rfl rfl rfl rfl (by omega) (by omega) (by simp only [hiK]; omega) ?_
      | refine ev_index rfl rfl tabOk rfl rfl rfl (by omega) (by omega) ?_
      | refine ev_indexA rfl rfl tabOk rfl rfl rfl (by omega) (by omega) rfl ?_
      | refine ev_convB rfl rfl tabOk rfl rfl rfl rfl ?_
      | refine ev_conv rfl rfl tabOk rfl rfl rfl (by simp only [lowK, hiK]; omega) ?_)
    refine ev_condD rfl (fun h0 => ?_) (fun h0 => ?_)
    · have h0 : v.chk.2 ≠ 0 := by omega
      repeat (first
        | refine stepF_ok tabOk [] (m := 400) rfl ?_
        | refine stepF_ok tabOk [] (m := 16) rfl ?_
        | refine stepF_ok tabOk [] (m := 3) rfl ?_
        | refine stepF_ok tabOk [] (m := 0) rfl ?_
        | refine ev_load rfl rfl tabOk rfl rfl (by assumption) ?_
        | refine ev_loadB rfl rfl tabOk rfl rfl (by assumption) (by rfl) ?_
        | refine ev_loadAggB rfl rfl tabOk rfl rfl (by assumption) (by rfl) ?_
        | refine ev_arith rfl rfl rfl rfl rfl (by simp only [lowK, hiK]; omega) ?_
        | refine ev_rem rfl rfl rfl rfl (by omega) (by omega) ?_
        | refine ev_quo rfl rfl rfl rfl (by omega) (by omega) (by simp only [hiK]; omega) ?_
        | refine ev_index rfl rfl tabOk rfl rfl rfl (by omega) (by omega) ?_
        | refine ev_indexA rfl rfl tabOk rfl rfl rfl (by omega) (by omega) rfl ?_
        | refine ev_convB rfl rfl tabOk rfl rfl rfl rfl ?_
        | refine ev_conv rfl rfl tabOk rfl rfl rfl (by simp only [lowK, hiK]; omega) ?_)
      exact retG tabOk (.inr rfl) rfl [.slice none 0 0, i64 v.chk.1, i64 v.chk.2] ⟨rfl, rfl, rfl, trivial⟩ ⟨⟨.slice none 0 0, by unfold encR; rw [enc_bad h0]; rfl, by rw [enc_bad h0]; exact Own.nil _ _ _, fun g hg => by cases hg⟩, hf01⟩
    have h0 : v.chk.2 = 0 := by omega
    have hok := chk_ok h0
    have hz1 := hf01.size
    have hpl := hB1.lt
    repeat (first
      | refine stepF_ok tabOk [] (m := 400) rfl ?_
      | refine stepF_ok tabOk [] (m := 16) rfl ?_
      | refine stepF_ok tabOk [] (m := 3) rfl ?_
      | refine stepF_ok tabOk [] (m := 0) rfl ?_
      | refine ev_load rfl rfl tabOk rfl rfl (by assumption) ?_
      | refine ev_loadB rfl rfl tabOk rfl rfl (by assumption) (by rfl) ?_
      | refine ev_loadAggB rfl rfl tabOk rfl rfl (by assumption) (by rfl) ?_
      | refine ev_arith rfl rfl rfl rfl rfl (by simp only [lowK, hiK]; omega) ?_
      | refine ev_rem rfl rfl rfl rfl (by omega) (by omega) ?_
      | refine ev_quo rfl rfl rfl rfl (by omega) (by omega) (by simp only [hiK]; omega) ?_
      | refine ev_index rfl rfl tabOk rfl rfl rfl (by omega) (by omega) ?_
      | refine ev_indexA rfl rfl tabOk rfl rfl rfl (by omega) (by omega) rfl ?_
      | refine ev_convB rfl rfl tabOk rfl rfl rfl rfl ?_
      | refine ev_conv rfl rfl tabOk rfl rfl rfl (by simp only [lowK, hiK]; omega) ?_)
    refine ev_makeMap strK rfl rfl (fun q w2 hq hM2 hf2 => ?_)
    have hB2 := hB1.fr0 hf2
    have hf02 := hf01.tr hf2
    have hqw : w.heap.size ≤ q := by omega
    have hpq : p < q := by omega
    clear hB1 hf01 hf2
    repeat (first
      | refine stepF_ok tabOk [] (m := 400) rfl ?_
      | refine stepF_ok tabOk [] (m := 16) rfl ?_
      | refine stepF_ok tabOk [] (m := 3) rfl ?_
      | refine stepF_ok tabOk [] (m := 0) rfl ?_
      | refine ev_load rfl rfl tabOk rfl rfl (by assumption) ?_
      | refine ev_loadB rfl rfl tabOk rfl rfl (by assumption) (by rfl) ?_
      | refine ev_loadAggB rfl rfl tabOk rfl rfl (by assumption) (by rfl) ?_
      | refine ev_arith rfl rfl rfl rfl rfl (by simp only [lowK, hiK]; omega) ?_
      | refine ev_rem rfl rfl rfl rfl (by omega) (by omega) ?_
      | refine ev_quo rfl rfl rfl rfl (by omega) (by omega) (by simp only [hiK]; omega) ?_
      | refine ev_index rfl rfl tabOk rfl rfl rfl (by omega) (by omega) ?_
      | refine ev_indexA rfl rfl tabOk rfl rfl rfl (by omega) (by omega) rfl ?_
      | refine ev_convB rfl rfl tabOk rfl rfl rfl rfl ?_
      | refine ev_conv rfl rfl tabOk rfl rfl rfl (by simp only [lowK, hiK]; omega) ?_)
    refine ev_loop (α := Nat) (fun k => [(1, sv s), (2, .pointer (some ⟨p, 0, none⟩)), (9, .map (some q)), (30, .slice A v.texts.length c), (31, i64 v.texts.length), (32, i64 k)])
      (fun k w' => k ≤ v.texts.length ∧ Fr no w w' ∧ Blk w' p [.slice A v.texts.length c, .slice B v.merges.length d] 25 ∧ Mp strK w' q (mapN v.t (fun i => i64 i) k)) (fun k => v.texts.length - k) 0 ⟨rfl, rfl, rfl, rfl, rfl, rfl, trivial⟩ ⟨Nat.zero_le _, hf02, hB2, hM2⟩ ?_
    clear hB2 hf02 hM2
    rintro k w3 ⟨hk, hf, hB, hM⟩
    repeat (first
      | refine stepF_ok tabOk [] (m := 400) rfl ?_
      | refine stepF_ok tabOk [] (m := 16) rfl ?_
      | refine stepF_ok tabOk [] (m := 3) rfl ?_
      | refine stepF_ok tabOk [] (m := 0) rfl ?_
      | refine ev_load rfl rfl tabOk rfl rfl (by assumption) ?_
      | refine ev_loadB rfl rfl tabOk rfl rfl (by assumption) (by rfl) ?_
      | refine ev_loadAggB rfl rfl tabOk rfl rfl (by assumption) (by rfl) ?_
      | refine ev_arith rfl rfl rfl rfl rfl (by simp only [lowK, hiK]; omega) ?_
      | refine ev_rem rfl rfl rfl rfl (by omega) (by omega) ?_
      | refine ev_quo rfl rfl rfl rfl (by omega) (by omega) (by simp only [hiK]; omega) ?_
      | refine ev_index rfl rfl tabOk rfl rfl rfl (by omega) (by omega) ?_
      | refine ev_indexA rfl rfl tabOk rfl rfl rfl (by omega) (by omega) rfl ?_
      | refine ev_convB rfl rfl tabOk rfl rfl rfl rfl ?_
      | refine ev_conv rfl rfl tabOk rfl rfl rfl (by simp only [lowK, hiK]; omega) ?_)
    refine ev_condD rfl (fun hlt => ?_) (fun hlt => ?_)
    · have hk1 : k < v.texts.length := by omega
      obtain ⟨g, o, e1, hcx⟩ := strs_at (hV.fr0 hf).1 hk1
      subst e1
      have hcx : w3.cell? ⟨g, o + (k : Int).toNat * 1, none⟩ = some (sv (v.t k)) := hcx
      repeat (first
        | refine stepF_ok tabOk [] (m := 400) rfl ?_
        | refine stepF_ok tabOk [] (m := 16) rfl ?_
        | refine stepF_ok tabOk [] (m := 3) rfl ?_
        | refine stepF_ok tabOk [] (m := 0) rfl ?_
        | refine ev_load rfl rfl tabOk rfl rfl (by assumption) ?_
        | refine ev_loadB rfl rfl tabOk rfl rfl (by assumption) (by rfl) ?_
        | refine ev_loadAggB rfl rfl tabOk rfl rfl (by assumption) (by rfl) ?_
        | refine ev_arith rfl rfl rfl rfl rfl (by simp only [lowK, hiK]; omega) ?_
        | refine ev_rem rfl rfl rfl rfl (by omega) (by omega) ?_
        | refine ev_quo rfl rfl rfl rfl (by omega) (by omega) (by simp only [hiK]; omega) ?_
        | refine ev_index rfl rfl tabOk rfl rfl rfl (by omega) (by omega) ?_
        | refine ev_indexA rfl rfl tabOk rfl rfl rfl (by omega) (by omega) rfl ?_
        | refine ev_convB rfl rfl tabOk rfl rfl rfl rfl ?_
        | refine ev_conv rfl rfl tabOk rfl rfl rfl (by simp only [lowK, hiK]; omega) ?_)
      refine ev_indexAddr (len := v.texts.length) (i := k) rfl rfl tabOk rfl rfl rfl (by omega) (by omega) ?_
      repeat (first
        | refine stepF_ok tabOk [] (m := 400) rfl ?_
        | refine stepF_ok tabOk [] (m := 16) rfl ?_
        | refine stepF_ok tabOk [] (m := 3) rfl ?_
        | refine stepF_ok tabOk [] (m := 0) rfl ?_
        | refine ev_load rfl rfl tabOk rfl rfl (by assumption) ?_
        | refine ev_loadB rfl rfl tabOk rfl rfl (by assumption) (by rfl) ?_
        | refine ev_loadAggB rfl rfl tabOk rfl rfl (by assumption) (by rfl) ?_
        | refine ev_arith rfl rfl rfl rfl rfl (by simp only [lowK, hiK]; omega) ?_
        | refine ev_rem rfl rfl rfl rfl (by omega) (by omega) ?_
        | refine ev_quo rfl rfl rfl rfl (by omega) (by omega) (by simp only [hiK]; omega) ?_
        | refine ev_index rfl rfl tabOk rfl rfl rfl (by omega) (by omega) ?_
        | refine ev_indexA rfl rfl tabOk rfl rfl rfl (by omega) (by omega) rfl ?_
        | refine ev_convB rfl rfl tabOk rfl rfl rfl rfl ?_
        | refine ev_conv rfl rfl tabOk rfl rfl rfl (by simp only [lowK, hiK]; omega) ?_)
      refine ev_mapPut (κ := strK) (q := v.t k) (v := i64 k) tabOk rfl rfl hM rfl rfl rfl keyS (mapN_none.2 fun i hi => (hok.texts k hk1).1 i hi) (fun w4 hM4 hf4 => ?_)
      rw [← mapN_succ v.t (fun i => i64 i) k] at hM4
      repeat (first
        | refine stepF_ok tabOk [] (m := 400) rfl ?_
        | refine stepF_ok tabOk [] (m := 16) rfl ?_
        | refine stepF_ok tabOk [] (m := 3) rfl ?_
        | refine stepF_ok tabOk [] (m := 0) rfl ?_
        | refine ev_load rfl rfl tabOk rfl rfl (by assumption) ?_
        | refine ev_loadB rfl rfl tabOk rfl rfl (by assumption) (by rfl) ?_
        | refine ev_loadAggB rfl rfl tabOk rfl rfl (by assumption) (by rfl) ?_
        | refine ev_arith rfl rfl rfl rfl rfl (by simp only [lowK, hiK]; omega) ?_
        | refine ev_rem rfl rfl rfl rfl (by omega) (by omega) ?_
        | refine ev_quo rfl rfl rfl rfl (by omega) (by omega) (by simp only [hiK]; omega) ?_
        | refine ev_index rfl rfl tabOk rfl rfl rfl (by omega) (by omega) ?_
        | refine ev_indexA rfl rfl tabOk rfl rfl rfl (by omega) (by omega) rfl ?_
        | refine ev_convB rfl rfl tabOk rfl rfl rfl rfl ?_
        | refine ev_conv rfl rfl tabOk rfl rfl rfl (by simp only [lowK, hiK]; omega) ?_)
      exact ev_next (k + 1) (by omega) ⟨by omega, old hf hqw hf4, blk_old hB hf4 hpq, hM4⟩ ⟨rfl, rfl, rfl, rfl, rfl, rfl, trivial⟩
    · have hkn : k = v.texts.length := by omega
      subst hkn
      repeat (first
        | refine stepF_ok tabOk [] (m := 400) rfl ?_
        | refine stepF_ok tabOk [] (m := 16) rfl ?_
        | refine stepF_ok tabOk [] (m := 3) rfl ?_
        | refine stepF_ok tabOk [] (m := 0) rfl ?_
        | refine ev_load rfl rfl tabOk rfl rfl (by assumption) ?_
        | refine ev_loadB rfl rfl tabOk rfl rfl (by assumption) (by rfl) ?_
        | refine ev_loadAggB rfl rfl tabOk rfl rfl (by assumption) (by rfl) ?_
        | refine ev_arith rfl rfl rfl rfl rfl (by simp only [lowK, hiK]; omega) ?_
        | refine ev_rem rfl rfl rfl rfl (by omega) (by omega) ?_
        | refine ev_quo rfl rfl rfl rfl (by omega) (by omega) (by simp only [hiK]; omega) ?_
        | refine ev_index rfl rfl tabOk rfl rfl rfl (by omega) (by omega) ?_
        | refine ev_indexA rfl rfl tabOk rfl rfl rfl (by omega) (by omega) rfl ?_
        | refine ev_convB rfl rfl tabOk rfl rfl rfl rfl ?_
        | refine ev_conv rfl rfl tabOk rfl rfl rfl (by simp only [lowK, hiK]; omega) ?_)
      refine ev_loop (α := Nat × Value) (fun y => [(1, sv s), (2, .pointer (some ⟨p, 0, none⟩)), (9, .map (some q)), (12, y.2), (42, i64 s.length), (43, i64 y.1)])
        (fun y w' => y.1 ≤ s.length ∧ (∀ j, j < y.1 → v.byte (s.getD j 0) < v.texts.length) ∧ Fr no w w' ∧ Blk w' p [.slice A v.texts.length c, .slice B v.merges.length d] 25 ∧ Mp strK w' q (mapN v.t (fun i => i64 i) v.texts.length) ∧ OI w' y.2 (v.bytes (s.take y.1)) ∧ (∀ g, y.2.ownBlock = some g → q < g)) (fun y => s.length - y.1) (0, .slice none 0 0) ⟨rfl, rfl, rfl, rfl, rfl, rfl, trivial⟩
        ⟨Nat.zero_le _, fun j h => by omega, hf, hB, hM, Own.nil _ _ _, fun g hg => by cases hg⟩ ?_
      clear hB hf hM
      rintro ⟨k, a⟩ w4 ⟨hk, hall, hf, hB, hM, hO, hg⟩
      simp only at hk hall hO hg
      have hbl : (v.bytes (s.take k)).length = k := by unfold VV.bytes; rw [List.length_map, List.length_take]; omega
      repeat (first
        | refine stepF_ok tabOk [] (m := 400) rfl ?_
        | refine stepF_ok tabOk [] (m := 16) rfl ?_
        | refine stepF_ok tabOk [] (m := 3) rfl ?_
        | refine stepF_ok tabOk [] (m := 0) rfl ?_
        | refine ev_load rfl rfl tabOk rfl rfl (by assumption) ?_
        | refine ev_loadB rfl rfl tabOk rfl rfl (by assumption) (by rfl) ?_
        | refine ev_loadAggB rfl rfl tabOk rfl rfl (by assumption) (by rfl) ?_
        | refine ev_arith rfl rfl rfl rfl rfl (by simp only [lowK, hiK]; omega) ?_
        | refine ev_rem rfl rfl rfl rfl (by omega) (by omega) ?_
        | refine ev_quo rfl rfl rfl rfl (by omega) (by omega) (by simp only [hiK]; omega) ?_
        | refine ev_index rfl rfl tabOk rfl rfl rfl (by omega) (by omega) ?_
        | refine ev_indexA rfl rfl tabOk rfl rfl rfl (by omega) (by omega) rfl ?_
        | refine ev_convB rfl rfl tabOk rfl rfl rfl rfl ?_
        | refine ev_conv rfl rfl tabOk rfl rfl rfl (by simp only [lowK, hiK]; omega) ?_)
      refine ev_condD rfl (fun hlt => ?_) (fun hlt => ?_)
      · simp only at hlt
        have hk1 : k < s.length := by omega
        repeat (first
          | refine stepF_ok tabOk [] (m := 400) rfl ?_
          | refine stepF_ok tabOk [] (m := 16) rfl ?_
          | refine stepF_ok tabOk [] (m := 3) rfl ?_
          | refine stepF_ok tabOk [] (m := 0) rfl ?_
          | refine ev_load rfl rfl tabOk rfl rfl (by assumption) ?_
          | refine ev_loadB rfl rfl tabOk rfl rfl (by assumption) (by rfl) ?_
          | refine ev_loadAggB rfl rfl tabOk rfl rfl (by assumption) (by rfl) ?_
          | refine ev_arith rfl rfl rfl rfl rfl (by simp only [lowK, hiK]; omega) ?_
          | refine ev_rem rfl rfl rfl rfl (by omega) (by omega) ?_
          | refine ev_quo rfl rfl rfl rfl (by omega) (by omega) (by simp only [hiK]; omega) ?_
          | refine ev_index rfl rfl tabOk rfl rfl rfl (by omega) (by omega) ?_
          | refine ev_indexA rfl rfl tabOk rfl rfl rfl (by omega) (by omega) rfl ?_
          | refine ev_convB rfl rfl tabOk rfl rfl rfl rfl ?_
          | refine ev_conv rfl rfl tabOk rfl rfl rfl (by simp only [lowK, hiK]; omega) ?_)
        refine ev_sliceStr (s := s) (i := k) rfl rfl tabOk rfl rfl rfl rfl (by omega) (by omega) (by omega) ?_
        rw [byte_drop hk1]
        refine ev_lookup (κ := strK) (q := [s.getD k 0]) tabOk rfl rfl rfl hM rfl rfl keyS inf3 (fun u hu => ?_) (fun hu => ?_)
        · obtain ⟨i, hi, he, rfl⟩ := mapN_some hu
          have hbi := byte_is hok hi he
          repeat (first
            | refine stepF_ok tabOk [] (m := 400) rfl ?_
            | refine stepF_ok tabOk [] (m := 16) rfl ?_
            | refine stepF_ok tabOk [] (m := 3) rfl ?_
            | refine stepF_ok tabOk [] (m := 0) rfl ?_
            | refine ev_load rfl rfl tabOk rfl rfl (by assumption) ?_
            | refine ev_loadB rfl rfl tabOk rfl rfl (by assumption) (by rfl) ?_
            | refine ev_loadAggB rfl rfl tabOk rfl rfl (by assumption) (by rfl) ?_
            | refine ev_arith rfl rfl rfl rfl rfl (by simp only [lowK, hiK]; omega) ?_
            | refine ev_rem rfl rfl rfl rfl (by omega) (by omega) ?_
            | refine ev_quo rfl rfl rfl rfl (by omega) (by omega) (by simp only [hiK]; omega) ?_
            | refine ev_index rfl rfl tabOk rfl rfl rfl (by omega) (by omega) ?_
            | refine ev_indexA rfl rfl tabOk rfl rfl rfl (by omega) (by omega) rfl ?_
            | refine ev_convB rfl rfl tabOk rfl rfl rfl rfl ?_
            | refine ev_conv rfl rfl tabOk rfl rfl rfl (by simp only [lowK, hiK]; omega) ?_)
          have hlen1 : (v.bytes (s.take k)).length ≤ 5000000 := by omega
          refine ev_append1 tabOk rfl rfl (fun _ => rfl) rfl rfl inf3 rfl (by omega) (fun _ => rfl) rfl rfl (by simp [Value.cells]) (by simp [flatV, Value.cells, Value.oneCell']) rfl hO (by omega) (fun a2 w5 q5 hO5 hf5 hn5 => ?_)
          have hbt := bytes_take (v := v) hk1
          rw [hbi] at hbt
          have hO5 : OI w5 a2 (v.bytes (s.take (k + 1))) := by
            unfold OI
            rw [hbt, List.map_append, List.length_append]; exact hO5
          repeat (first
            | refine stepF_ok tabOk [] (m := 400) rfl ?_
            | refine stepF_ok tabOk [] (m := 16) rfl ?_
            | refine stepF_ok tabOk [] (m := 3) rfl ?_
            | refine stepF_ok tabOk [] (m := 0) rfl ?_
            | refine ev_load rfl rfl tabOk rfl rfl (by assumption) ?_
            | refine ev_loadB rfl rfl tabOk rfl rfl (by assumption) (by rfl) ?_
            | refine ev_loadAggB rfl rfl tabOk rfl rfl (by assumption) (by rfl) ?_
            | refine ev_arith rfl rfl rfl rfl rfl (by simp only [lowK, hiK]; omega) ?_
            | refine ev_rem rfl rfl rfl rfl (by omega) (by omega) ?_
            | refine ev_quo rfl rfl rfl rfl (by omega) (by omega) (by simp only [hiK]; omega) ?_
            | refine ev_index rfl rfl tabOk rfl rfl rfl (by omega) (by omega) ?_
            | refine ev_indexA rfl rfl tabOk rfl rfl rfl (by omega) (by omega) rfl ?_
            | refine ev_convB rfl rfl tabOk rfl rfl rfl rfl ?_
            | refine ev_conv rfl rfl tabOk rfl rfl rfl (by simp only [lowK, hiK]; omega) ?_)
          refine ev_next (k + 1, a2) (by simp only; omega) ⟨by simp only; omega, fun j hj => ?_, hf.trans hf5 (fun b hb e => by have := hg b e; omega), hB.fr hf5 (fun e => by have := hg p e; omega), hM.fr hf5 (fun e => by have := hg q e; omega), hO5, fun g hg' => ?_⟩ ⟨rfl, rfl, rfl, rfl, rfl, rfl, trivial⟩
          · by_cases e : j = k
            · subst e; omega
            · exact hall j (by simp only at hj; omega)
          · rcases hn5 g hg' with h | h
            · exact hg g h
            · have := hM.lt; omega
        · have hno := mapN_none.1 hu
          have hbn := byte_none (v := v) (b := s.getD k 0) hno
          repeat (first
            | refine stepF_ok tabOk [] (m := 400) rfl ?_
            | refine stepF_ok tabOk [] (m := 16) rfl ?_
            | refine stepF_ok tabOk [] (m := 3) rfl ?_
            | refine stepF_ok tabOk [] (m := 0) rfl ?_
            | refine ev_load rfl rfl tabOk rfl rfl (by assumption) ?_
            | refine ev_loadB rfl rfl tabOk rfl rfl (by assumption) (by rfl) ?_
            | refine ev_loadAggB rfl rfl tabOk rfl rfl (by assumption) (by rfl) ?_
            | refine ev_arith rfl rfl rfl rfl rfl (by simp only [lowK, hiK]; omega) ?_
            | refine ev_rem rfl rfl rfl rfl (by omega) (by omega) ?_
            | refine ev_quo rfl rfl rfl rfl (by omega) (by omega) (by simp only [hiK]; omega) ?_
            | refine ev_index rfl rfl tabOk rfl rfl rfl (by omega) (by omega) ?_
            | refine ev_indexA rfl rfl tabOk rfl rfl rfl (by omega) (by omega) rfl ?_
            | refine ev_convB rfl rfl tabOk rfl rfl rfl rfl ?_
            | refine ev_conv rfl rfl tabOk rfl rfl rfl (by simp only [lowK, hiK]; omega) ?_)
          exact retG tabOk (.inr rfl) rfl [.slice none 0 0, i64 k, i64 132] ⟨rfl, rfl, rfl, trivial⟩ ⟨⟨.slice none 0 0, by unfold encR; rw [enc_byte h0 hk1 hall (by omega)]; rfl, by rw [enc_byte h0 hk1 hall (by omega)]; exact Own.nil _ _ _, fun g hg => by cases hg⟩, hf⟩
      · have hkn : k = s.length := by omega
        subst hkn
        rw [List.take_length] at hO hbl
        refine stepF_ok tabOk [] (m := 5) rfl ?_
        refine rest (v.bytes s, a) w4 _ ⟨h0, enc_all h0 hall, by simp only; omega, hO, fun g hg' => ?_, hf, hB⟩ ?_
        · have := hg g hg'; omega
        · exact ⟨rfl, rfl, rfl, trivial⟩
end Go.Wk.Ytjdfdahdobikmaa
