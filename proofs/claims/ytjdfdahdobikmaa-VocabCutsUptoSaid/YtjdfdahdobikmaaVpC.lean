/-
  The walks of chapter 13: a text by the fewest tokens; the document.
-/
import Derived.Test.YtjdfdahdobikmaaVpB
import Derived.Test.YtjdfdahdobikmaaVoX
set_option linter.unusedVariables false
namespace Go.Wk.Ytjdfdahdobikmaa
open Go Go.Wk Go.Proofs

/-- the document's number of the fewest tokens -/
def eN (s : List UInt8) (m : Nat) : Int := if m ≤ s.length then (m : Int) else -1
theorem eN_yes {s : List UInt8} {m : Nat} (h : m ≤ s.length) : eN s m = m := if_pos h
theorem eN_no {s : List UInt8} {m : Nat} (h : ¬ m ≤ s.length) : eN s m = -1 := if_neg h
/-- the document's table -/
def Dq (v : VV) (s : List UInt8) (q : Nat) (r : List Int) : Prop := r.length = s.length + 1 ∧ (∀ j, q ≤ j → j ≤ s.length → r.getD j 0 = eN s (v.fp s j)) ∧ ∀ j, j < q → r.getD j 0 = -1
def Dk (v : VV) (s : List UInt8) (q k : Nat) (r : List Int) : Prop := r.length = s.length + 1 ∧ (∀ j, q < j → j ≤ s.length → r.getD j 0 = eN s (v.fp s j)) ∧ (∀ j, j < q → r.getD j 0 = -1) ∧ r.getD q 0 = eN s (v.mins s (v.fp s) q k)
theorem Dk.start {v : VV} {s : List UInt8} {q : Nat} {r : List Int} (h : Dq v s (q + 1) r) : Dk v s q 1 r := by
  refine ⟨h.1, fun j h1 h2 => h.2.1 j h1 h2, fun j hj => h.2.2 j (by omega), ?_⟩
  have e : v.mins s (v.fp s) q 1 = s.length + 1 := if_neg fun h => absurd h.1 (Nat.lt_irrefl 0)
  rw [e, eN_no (by omega)]
  exact h.2.2 q (by omega)
theorem Dk.no {v : VV} {s : List UInt8} {q k : Nat} {r : List Int} (h : Dk v s q k r) (hs : ¬ v.sd s q k) : Dk v s q (k + 1) r := by
  have e : v.mins s (v.fp s) q (k + 1) = v.mins s (v.fp s) q k := if_neg hs
  exact ⟨h.1, h.2.1, h.2.2.1, by rw [e]; exact h.2.2.2⟩
theorem Dk.put {v : VV} {s : List UInt8} {q k : Nat} {r : List Int} (h : Dk v s q k r) (hq : q < s.length) (x : Int) (hx : x = eN s (v.mins s (v.fp s) q (k + 1))) : Dk v s q (k + 1) (r.set q x) := by
  refine ⟨by rw [List.length_set]; exact h.1, fun j h1 h2 => ?_, fun j hj => ?_, ?_⟩
  · rw [getD_set (by rw [h.1]; omega), if_neg (by omega)]; exact h.2.1 j h1 h2
  · rw [getD_set (by rw [h.1]; omega), if_neg (by omega)]; exact h.2.2.1 j hj
  · rw [getD_set (by rw [h.1]; omega), if_pos rfl]; exact hx
theorem Dk.same {v : VV} {s : List UInt8} {q k : Nat} {r : List Int} (h : Dk v s q k r) (hx : v.mins s (v.fp s) q (k + 1) = v.mins s (v.fp s) q k) : Dk v s q (k + 1) r := ⟨h.1, h.2.1, h.2.2.1, by rw [hx]; exact h.2.2.2⟩
theorem Dk.done {v : VV} {s : List UInt8} (hok : v.ok) {q : Nat} {r : List Int} (h : Dk v s q v.texts.length r) (hq : q < s.length) : Dq v s q r :=
  ⟨h.1, fun j h1 h2 => by
    by_cases e : j = q
    · subst e; rw [h.2.2.2, fp_eq hok hq]
    · exact h.2.1 j (by omega) h2, h.2.2.1⟩
theorem mins_yes {v : VV} {s : List UInt8} {q k : Nat} (hs : v.sd s q k) : v.mins s (v.fp s) q (k + 1) = min (v.mins s (v.fp s) q k) (v.fp s (q + (v.t k).length) + 1) := if_pos hs
/-- the marks at the start -/
def bz (k : Nat) : List Bool := (List.range k).map fun i => decide (i = 0)
theorem bz_len (k : Nat) : (bz k).length = k := by unfold bz; simp
theorem bz_succ (k : Nat) : bz (k + 1) = bz k ++ [decide (k = 0)] := by unfold bz; rw [List.range_succ, List.map_append]; rfl
theorem bz_at {k j : Nat} (h : j < k) : (bz k).getD j false = decide (j = 0) := by
  unfold bz
  rw [List.getD_eq_getElem?_getD, List.getElem?_map, List.getElem?_range h]; rfl
theorem Rb.of_own {w : World} {a : Value} {r : List Bool} (h : Own w 4 1 a r.length (r.map bo)) (h2 : 0 < r.length) : ∃ g cap, a = .slice (some ⟨g, 0, none⟩) r.length cap ∧ Rb w g cap r := by
  rcases h.2 with ⟨rfl, h3⟩ | ⟨g, cap, cur, rfl, _, hg, hn, hc, hs, ht⟩
  · omega
  · rw [Nat.mul_one] at hs ht
    exact ⟨g, cap, rfl, cur.toList, hg, by simpa using hs, hn, ht⟩
theorem rw_len {w : World} {g cap : Nat} {r : List Int} (h : Rw w g cap r) : ∃ cs, Blk w g cs 3 ∧ cs.length = cap ∧ r.length ≤ cap ∧ cs.take r.length = r.map i64 := h

theorem rch_mk2 {v : VV} {s : List UInt8} (hok : v.ok) {q j : Nat} (h : v.Rch s j) (hj : j ≤ q) : v.mkd s q 0 j := by
  cases h with
  | zero => exact .inl rfl
  | step h1 h2 h3 => exact .inr ⟨_, _, .inl (by have := t_pos hok h3.1 h2; omega), h1, h2, h3, rfl⟩

set_option maxHeartbeats 3000000 in
theorem refFewest (A : Option Addr) (c : Nat) (B : Option Addr) (d : Nat) (v : VV) (s : List UInt8) (w : World) (hV : Vo w A B v) (hS : VS v) (hs : s.length ≤ 5000000) :
    CallsF Try.prog 28 [vv A c B d v, sv s] w fun r w' => FewR v s r w' ∧ Fr no w w' := by
  have hn := hS.merges
  have hnt := hS.texts
  refine callsF Try.func28 rfl rfl (by decide) rfl ?_
  refine stepF_ok tabOk [] (m := 3) rfl ?_
  refine ev_box rfl rfl rfl (fun p wb hp hB hfb => ?_)
  have hB : Blk wb p [.slice A v.texts.length c, .slice B v.merges.length d] 28 := hB
  repeat (first
    | refine stepF_ok tabOk [] (m := 400) rfl ?_
    | refine stepF_ok tabOk [] (m := 16) rfl ?_
    | refine stepF_ok tabOk [] (m := 3) rfl ?_
    | refine stepF_ok tabOk [] (m := 0) rfl ?_
    | refine ev_load rfl rfl tabOk rfl rfl (by assumption) ?_
    | refine ev_loadB rfl rfl tabOk rfl rfl (by assumption) (by rfl) ?_
    | refine ev_loadAggB rfl rfl tabOk rfl rfl (by assumption) (by rfl) ?_
    | refine ev_arith rfl rfl rfl rfl rfl (by simp only [lowK, hiK]; omega) ?_
    | refine ev_rem rfl rfl rfl rfl (by omega) (by omega) ?_
    | refine ev_quo rfl rfl rfl rfl (by omega) (by omega) (by simp only [hiK]; omega) ?_
    | refine ev_index rfl rfl tabOk rfl rfl rfl (by omega) (by omega) ?_
    | refine ev_indexA rfl rfl tabOk rfl rfl rfl (by omega) (by omega) rfl ?_
    | refine ev_convB rfl rfl tabOk rfl rfl rfl rfl ?_
    | refine ev_conv rfl rfl tabOk rfl rfl rfl (by simp only [lowK, hiK]; omega) ?_)
  refine ev_call rfl rfl rfl (refCheck A c B d v _ (hV.fr0 hfb) hS) (fun r w1 hr => ?_)
  obtain ⟨rfl, hf1⟩ := hr
  have hB1 := hB.fr0 hf1
  have hf01 := hfb.tr hf1
  clear hB hfb hf1
  repeat (first
    | refine stepF_ok tabOk [] (m := 400) rfl ?_
    | refine stepF_ok tabOk [] (m := 16) rfl ?_
    | refine stepF_ok tabOk [] (m := 3) rfl ?_
    | refine stepF_ok tabOk [] (m := 0) rfl ?_
    | refine ev_load rfl rfl tabOk rfl rfl (by assumption) ?_
    | refine ev_loadB rfl rfl tabOk rfl rfl (by assumption) (by rfl) ?_
    | refine ev_loadAggB rfl rfl tabOk rfl rfl (by assumption) (by rfl) ?_
    | refine ev_arith rfl rfl rfl rfl rfl (by simp only [lowK, hiK]; omega) ?_
    | refine ev_rem rfl rfl rfl rfl (by omega) (by omega) ?_
    | refine ev_quo rfl rfl rfl rfl (by omega) (by omega) (by simp only [hiK]; omega) ?_
    | refine ev_index rfl rfl tabOk rfl rfl rfl (by omega) (by omega) ?_
    | refine ev_indexA rfl rfl tabOk rfl rfl rfl (by omega) (by omega) rfl ?_
    | refine ev_convB rfl rfl tabOk rfl rfl rfl rfl ?_
    | refine ev_conv rfl rfl tabOk rfl rfl rfl (by simp only [lowK, hiK]; omega) ?_)
  refine ev_condD rfl (fun h => ?_) (fun h => ?_)
  · repeat (first
      | refine stepF_ok tabOk [] (m := 400) rfl ?_
      | refine stepF_ok tabOk [] (m := 16) rfl ?_
      | refine stepF_ok tabOk [] (m := 3) rfl ?_
      | refine stepF_ok tabOk [] (m := 0) rfl ?_
      | refine ev_load rfl rfl tabOk rfl rfl (by assumption) ?_
      | refine ev_loadB rfl rfl tabOk rfl rfl (by assumption) (by rfl) ?_
      | refine ev_loadAggB rfl rfl tabOk rfl rfl (by assumption) (by rfl) ?_
      | refine ev_arith rfl rfl rfl rfl rfl (by simp only [lowK, hiK]; omega) ?_
      | refine ev_rem rfl rfl rfl rfl (by omega) (by omega) ?_
      | refine ev_quo rfl rfl rfl rfl (by omega) (by omega) (by simp only [hiK]; omega) ?_
      | refine ev_index rfl rfl tabOk rfl rfl rfl (by omega) (by omega) ?_
      | refine ev_indexA rfl rfl tabOk rfl rfl rfl (by omega) (by omega) rfl ?_
      | refine ev_convB rfl rfl tabOk rfl rfl rfl rfl ?_
      | refine ev_conv rfl rfl tabOk rfl rfl rfl (by simp only [lowK, hiK]; omega) ?_)
    refine ev_buildSlice tabOk rfl rfl rfl inf3 rfl rfl rfl (by simp) rfl (fun q w2 hq hb2 hf2 => ?_)
    have ho2 : OI w2 (.slice (some ⟨q, 0, none⟩) 0 0) [] := own_of_blk (m := 0) (sz := 1) hb2 rfl (by omega)
    repeat (first
      | refine stepF_ok tabOk [] (m := 400) rfl ?_
      | refine stepF_ok tabOk [] (m := 16) rfl ?_
      | refine stepF_ok tabOk [] (m := 3) rfl ?_
      | refine stepF_ok tabOk [] (m := 0) rfl ?_
      | refine ev_load rfl rfl tabOk rfl rfl (by assumption) ?_
      | refine ev_loadB rfl rfl tabOk rfl rfl (by assumption) (by rfl) ?_
      | refine ev_loadAggB rfl rfl tabOk rfl rfl (by assumption) (by rfl) ?_
      | refine ev_arith rfl rfl rfl rfl rfl (by simp only [lowK, hiK]; omega) ?_
      | refine ev_rem rfl rfl rfl rfl (by omega) (by omega) ?_
      | refine ev_quo rfl rfl rfl rfl (by omega) (by omega) (by simp only [hiK]; omega) ?_
      | refine ev_index rfl rfl tabOk rfl rfl rfl (by omega) (by omega) ?_
      | refine ev_indexA rfl rfl tabOk rfl rfl rfl (by omega) (by omega) rfl ?_
      | refine ev_convB rfl rfl tabOk rfl rfl rfl rfl ?_
      | refine ev_conv rfl rfl tabOk rfl rfl rfl (by simp only [lowK, hiK]; omega) ?_)
    exact ret3 (.inr rfl) rfl rfl rfl rfl ⟨⟨_, ([], v.chk.1, v.chk.2), rfl, ho2, fun _ => rfl, fun h0 => absurd h0 (by omega), fun h0 => absurd h0 (by omega)⟩, hf01.tr hf2⟩
  have h0 : v.chk.2 = 0 := by omega
  have hok := chk_ok h0
  have htwo := hok.two
  have hwp : w.heap.size ≤ p := hp
  repeat (first
    | refine stepF_ok tabOk [] (m := 400) rfl ?_
    | refine stepF_ok tabOk [] (m := 16) rfl ?_
    | refine stepF_ok tabOk [] (m := 3) rfl ?_
    | refine stepF_ok tabOk [] (m := 0) rfl ?_
    | refine ev_load rfl rfl tabOk rfl rfl (by assumption) ?_
    | refine ev_loadB rfl rfl tabOk rfl rfl (by assumption) (by rfl) ?_
    | refine ev_loadAggB rfl rfl tabOk rfl rfl (by assumption) (by rfl) ?_
    | refine ev_arith rfl rfl rfl rfl rfl (by simp only [lowK, hiK]; omega) ?_
    | refine ev_rem rfl rfl rfl rfl (by omega) (by omega) ?_
    | refine ev_quo rfl rfl rfl rfl (by omega) (by omega) (by simp only [hiK]; omega) ?_
    | refine ev_index rfl rfl tabOk rfl rfl rfl (by omega) (by omega) ?_
    | refine ev_indexA rfl rfl tabOk rfl rfl rfl (by omega) (by omega) rfl ?_
    | refine ev_convB rfl rfl tabOk rfl rfl rfl rfl ?_
    | refine ev_conv rfl rfl tabOk rfl rfl rfl (by simp only [lowK, hiK]; omega) ?_)
  refine ev_buildSlice tabOk rfl rfl rfl inf3 rfl rfl rfl (by simp) rfl (fun q w2 hq hb2 hf2 => ?_)
  have ho2 : Own w2 3 1 (.slice (some ⟨q, 0, none⟩) 0 0) 0 ((List.replicate 0 (-1)).map i64) := own_of_blk (m := 0) (sz := 1) hb2 rfl (by omega)
  refine ev_buildSlice tabOk rfl rfl rfl inf4 rfl rfl rfl (by simp) rfl (fun q2 w3 hq2 hb3 hf3 => ?_)
  have ho3 : Own w3 4 1 (.slice (some ⟨q2, 0, none⟩) 0 0) 0 ((bz 0).map bo) := own_of_blk (m := 0) (sz := 1) hb3 rfl (by omega)
  have ho23 := ho2.fr0 hf3
  have hB3 := (hB1.fr0 hf2).fr0 hf3
  have hf03 := (hf01.tr hf2).tr hf3
  have g2 : ∀ g, (Value.slice (some ⟨q, 0, none⟩) 0 0).ownBlock = some g → p < g := fun g h => by
    simp only [Value.ownBlock, Option.some.injEq] at h; have := hB1.lt; omega
  have g3 : ∀ g, (Value.slice (some ⟨q2, 0, none⟩) 0 0).ownBlock = some g → p < g := fun g h => by
    simp only [Value.ownBlock, Option.some.injEq] at h; have := hB1.lt; have := hf2.size; omega
  clear hB1 hf01 hf2 hf3 hb2 hb3 ho2 hq hq2
  repeat (first
    | refine stepF_ok tabOk [] (m := 400) rfl ?_
    | refine stepF_ok tabOk [] (m := 16) rfl ?_
    | refine stepF_ok tabOk [] (m := 3) rfl ?_
    | refine stepF_ok tabOk [] (m := 0) rfl ?_
    | refine ev_load rfl rfl tabOk rfl rfl (by assumption) ?_
    | refine ev_loadB rfl rfl tabOk rfl rfl (by assumption) (by rfl) ?_
    | refine ev_loadAggB rfl rfl tabOk rfl rfl (by assumption) (by rfl) ?_
    | refine ev_arith rfl rfl rfl rfl rfl (by simp only [lowK, hiK]; omega) ?_
    | refine ev_rem rfl rfl rfl rfl (by omega) (by omega) ?_
    | refine ev_quo rfl rfl rfl rfl (by omega) (by omega) (by simp only [hiK]; omega) ?_
    | refine ev_index rfl rfl tabOk rfl rfl rfl (by omega) (by omega) ?_
    | refine ev_indexA rfl rfl tabOk rfl rfl rfl (by omega) (by omega) rfl ?_
    | refine ev_convB rfl rfl tabOk rfl rfl rfl rfl ?_
    | refine ev_conv rfl rfl tabOk rfl rfl rfl (by simp only [lowK, hiK]; omega) ?_)
  refine ev_loop (α := Nat × Value × Value) (fun y => [(1, sv s), (2, .pointer (some ⟨p, 0, none⟩)), (9, y.2.1), (10, y.2.2), (11, i64 y.1)])
    (fun y w' => y.1 ≤ s.length + 1 ∧ Own w' 3 1 y.2.1 y.1 ((List.replicate y.1 (-1)).map i64) ∧ Own w' 4 1 y.2.2 y.1 ((bz y.1).map bo) ∧ (∀ g, y.2.1.ownBlock = some g → p < g) ∧ (∀ g, y.2.2.ownBlock = some g → p < g) ∧ Fr no w w' ∧ Blk w' p [.slice A v.texts.length c, .slice B v.merges.length d] 28) (fun y => s.length + 1 - y.1) (0, .slice (some ⟨q, 0, none⟩) 0 0, .slice (some ⟨q2, 0, none⟩) 0 0) ⟨rfl, rfl, rfl, rfl, rfl, trivial⟩ ⟨Nat.zero_le _, ho23, ho3, g2, g3, hf03, hB3⟩ ?_
  clear ho23 ho3 g2 g3 hf03 hB3
  rintro ⟨k, a, b⟩ w4 ⟨hk, hOa, hOb, ga, gb, hf, hB⟩
  simp only at hk hOa hOb ga gb
  repeat (first
    | refine stepF_ok tabOk [] (m := 400) rfl ?_
    | refine stepF_ok tabOk [] (m := 16) rfl ?_
    | refine stepF_ok tabOk [] (m := 3) rfl ?_
    | refine stepF_ok tabOk [] (m := 0) rfl ?_
    | refine ev_load rfl rfl tabOk rfl rfl (by assumption) ?_
    | refine ev_loadB rfl rfl tabOk rfl rfl (by assumption) (by rfl) ?_
    | refine ev_loadAggB rfl rfl tabOk rfl rfl (by assumption) (by rfl) ?_
    | refine ev_arith rfl rfl rfl rfl rfl (by simp only [lowK, hiK]; omega) ?_
    | refine ev_rem rfl rfl rfl rfl (by omega) (by omega) ?_
    | refine ev_quo rfl rfl rfl rfl (by omega) (by omega) (by simp only [hiK]; omega) ?_
    | refine ev_index rfl rfl tabOk rfl rfl rfl (by omega) (by omega) ?_
    | refine ev_indexA rfl rfl tabOk rfl rfl rfl (by omega) (by omega) rfl ?_
    | refine ev_convB rfl rfl tabOk rfl rfl rfl rfl ?_
    | refine ev_conv rfl rfl tabOk rfl rfl rfl (by simp only [lowK, hiK]; omega) ?_)
  refine ev_condD rfl (fun hlt => ?_) (fun hlt => ?_)
  · have hk1 : k ≤ s.length := by have : (k : Int) ≤ s.length := hlt; omega
    repeat (first
      | refine stepF_ok tabOk [] (m := 400) rfl ?_
      | refine stepF_ok tabOk [] (m := 16) rfl ?_
      | refine stepF_ok tabOk [] (m := 3) rfl ?_
      | refine stepF_ok tabOk [] (m := 0) rfl ?_
      | refine ev_load rfl rfl tabOk rfl rfl (by assumption) ?_
      | refine ev_loadB rfl rfl tabOk rfl rfl (by assumption) (by rfl) ?_
      | refine ev_loadAggB rfl rfl tabOk rfl rfl (by assumption) (by rfl) ?_
      | refine ev_arith rfl rfl rfl rfl rfl (by simp only [lowK, hiK]; omega) ?_
      | refine ev_rem rfl rfl rfl rfl (by omega) (by omega) ?_
      | refine ev_quo rfl rfl rfl rfl (by omega) (by omega) (by simp only [hiK]; omega) ?_
      | refine ev_index rfl rfl tabOk rfl rfl rfl (by omega) (by omega) ?_
      | refine ev_indexA rfl rfl tabOk rfl rfl rfl (by omega) (by omega) rfl ?_
      | refine ev_convB rfl rfl tabOk rfl rfl rfl rfl ?_
      | refine ev_conv rfl rfl tabOk rfl rfl rfl (by simp only [lowK, hiK]; omega) ?_)
    refine ev_append1 tabOk rfl rfl (fun _ => rfl) rfl rfl inf3 rfl (by omega) (fun _ => rfl) rfl rfl (by simp [Value.cells]) (by simp [flatV, Value.cells, Value.oneCell']) rfl hOa (by omega) (fun a2 w5 q5 ho5 hf5 hn5 => ?_)
    have ho5 : Own w5 3 1 a2 (k + 1) ((List.replicate (k + 1) (-1)).map i64) := by
      rw [List.replicate_succ', List.map_append]; exact ho5
    have hf05 : Fr no w w5 := hf.trans hf5 (fun b hb h => by have := ga _ h; omega)
    have hB5 := hB.fr hf5 (fun h => by have := ga _ h; omega)
    have hOb5 := hOb.fr hf5 (fun g hg h => own_apart hOa hOb (by decide) g h hg)
    have ga5 : ∀ g, a2.ownBlock = some g → p < g := fun g h => by
      rcases hn5 g h with h | h
      · exact ga g h
      · have := hB.lt; omega
    clear hf5 hB hOb hOa hf hn5 ga
    repeat (first
      | refine stepF_ok tabOk [] (m := 400) rfl ?_
      | refine stepF_ok tabOk [] (m := 16) rfl ?_
      | refine stepF_ok tabOk [] (m := 3) rfl ?_
      | refine stepF_ok tabOk [] (m := 0) rfl ?_
      | refine ev_load rfl rfl tabOk rfl rfl (by assumption) ?_
      | refine ev_loadB rfl rfl tabOk rfl rfl (by assumption) (by rfl) ?_
      | refine ev_loadAggB rfl rfl tabOk rfl rfl (by assumption) (by rfl) ?_
      | refine ev_arith rfl rfl rfl rfl rfl (by simp only [lowK, hiK]; omega) ?_
      | refine ev_rem rfl rfl rfl rfl (by omega) (by omega) ?_
      | refine ev_quo rfl rfl rfl rfl (by omega) (by omega) (by simp only [hiK]; omega) ?_
      | refine ev_index rfl rfl tabOk rfl rfl rfl (by omega) (by omega) ?_
      | refine ev_indexA rfl rfl tabOk rfl rfl rfl (by omega) (by omega) rfl ?_
      | refine ev_convB rfl rfl tabOk rfl rfl rfl rfl ?_
      | refine ev_conv rfl rfl tabOk rfl rfl rfl (by simp only [lowK, hiK]; omega) ?_)
    refine ev_append1 tabOk rfl rfl (fun _ => rfl) rfl rfl inf4 rfl (by omega) (fun _ => rfl) rfl rfl (by simp [Value.cells]) (by simp [flatV, Value.cells, Value.oneCell']) rfl hOb5 (by omega) (fun b2 w6 q6 ho6 hf6 hn6 => ?_)
    have ho6 : Own w6 4 1 b2 (k + 1) ((bz (k + 1)).map bo) := by
      rw [bz_succ, List.map_append]
      have e : decide ((k : Int) = 0) = decide (k = 0) := decide_eq_decide.2 (by omega)
      have e2 : (List.map bo [decide (k = 0)]) = flatV [.bool (decide ((k : Int) = 0))] := by rw [e]; rfl
      rw [e2]; exact ho6
    have hf06 : Fr no w w6 := hf05.trans hf6 (fun b hb h => by have := gb _ h; omega)
    have hB6 := hB5.fr hf6 (fun h => by have := gb _ h; omega)
    have ho56 := ho5.fr hf6 (fun g hg h => own_apart hOb5 ho5 (by decide) g h hg)
    have gb6 : ∀ g, b2.ownBlock = some g → p < g := fun g h => by
      rcases hn6 g h with h | h
      · exact gb g h
      · have := hB5.lt; omega
    clear hf6 hB5 hOb5 ho5 hf05 hn6 gb
    repeat (first
      | refine stepF_ok tabOk [] (m := 400) rfl ?_
      | refine stepF_ok tabOk [] (m := 16) rfl ?_
      | refine stepF_ok tabOk [] (m := 3) rfl ?_
      | refine stepF_ok tabOk [] (m := 0) rfl ?_
      | refine ev_load rfl rfl tabOk rfl rfl (by assumption) ?_
      | refine ev_loadB rfl rfl tabOk rfl rfl (by assumption) (by rfl) ?_
      | refine ev_loadAggB rfl rfl tabOk rfl rfl (by assumption) (by rfl) ?_
      | refine ev_arith rfl rfl rfl rfl rfl (by simp only [lowK, hiK]; omega) ?_
      | refine ev_rem rfl rfl rfl rfl (by omega) (by omega) ?_
      | refine ev_quo rfl rfl rfl rfl (by omega) (by omega) (by simp only [hiK]; omega) ?_
      | refine ev_index rfl rfl tabOk rfl rfl rfl (by omega) (by omega) ?_
      | refine ev_indexA rfl rfl tabOk rfl rfl rfl (by omega) (by omega) rfl ?_
      | refine ev_convB rfl rfl tabOk rfl rfl rfl rfl ?_
      | refine ev_conv rfl rfl tabOk rfl rfl rfl (by simp only [lowK, hiK]; omega) ?_)
    exact ev_next (k + 1, a2, b2) (by simp only; omega) ⟨by simp only; omega, ho56, ho6, ga5, gb6, hf06, hB6⟩ ⟨rfl, rfl, rfl, rfl, rfl, trivial⟩
  have hkn : k = s.length + 1 := by have : ¬ (k : Int) ≤ s.length := hlt; omega
  subst hkn
  have hOa' : OI w4 a (List.replicate (s.length + 1) (-1)) := by unfold OI; rw [List.length_replicate]; exact hOa
  obtain ⟨g, cap, rfl, hR, hcap⟩ := Rw.of_oi hOa' (by rw [List.length_replicate]; omega)
  have hOb' : Own w4 4 1 b (bz (s.length + 1)).length ((bz (s.length + 1)).map bo) := by rw [bz_len]; exact hOb
  obtain ⟨g', cap', rfl, hRb⟩ := Rb.of_own hOb' (by rw [bz_len]; omega)
  rw [List.length_replicate, bz_len]
  have hgg : g ≠ g' := fun e => own_apart hOa hOb (by decide) g rfl (e ▸ rfl)
  have hpg := ga g rfl
  have hpg' := gb g' rfl
  clear hOa hOb hOa' hOb' ga gb hlt hk
  obtain ⟨cs, hb4, h1, h2, h3⟩ := hR
  rw [List.length_replicate] at h2
  have hput := Rw.put (r := List.replicate (s.length + 1) (-1)) (j := s.length) (x := 0) h1 (by rw [List.length_replicate]; exact h2) h3 (by rw [List.length_replicate]; omega)
  repeat (first
    | refine stepF_ok tabOk [] (m := 400) rfl ?_
    | refine stepF_ok tabOk [] (m := 16) rfl ?_
    | refine stepF_ok tabOk [] (m := 3) rfl ?_
    | refine stepF_ok tabOk [] (m := 0) rfl ?_
    | refine ev_load rfl rfl tabOk rfl rfl (by assumption) ?_
    | refine ev_loadB rfl rfl tabOk rfl rfl (by assumption) (by rfl) ?_
    | refine ev_loadAggB rfl rfl tabOk rfl rfl (by assumption) (by rfl) ?_
    | refine ev_arith rfl rfl rfl rfl rfl (by simp only [lowK, hiK]; omega) ?_
    | refine ev_rem rfl rfl rfl rfl (by omega) (by omega) ?_
    | refine ev_quo rfl rfl rfl rfl (by omega) (by omega) (by simp only [hiK]; omega) ?_
    | refine ev_index rfl rfl tabOk rfl rfl rfl (by omega) (by omega) ?_
    | refine ev_indexA rfl rfl tabOk rfl rfl rfl (by omega) (by omega) rfl ?_
    | refine ev_convB rfl rfl tabOk rfl rfl rfl rfl ?_
    | refine ev_conv rfl rfl tabOk rfl rfl rfl (by simp only [lowK, hiK]; omega) ?_)
  refine ev_indexAddr (len := s.length + 1) (i := s.length) rfl rfl tabOk rfl rfl rfl (by omega) (by omega) ?_
  rw [show 0 + (s.length : Int).toNat * 1 = s.length by omega]
  refine ev_store tabOk rfl rfl rfl rfl rfl rfl hb4 (by rw [Nat.blt_eq, h1]; omega) (fun w5 hb5 hf5 => ?_)
  have hR5 : Rw w5 g cap _ := ⟨_, hb5, hput⟩
  have hf05 : Fr no w w5 := old hf (by omega) hf5
  have hB5 := hB.fr hf5 (fun e => by have : p = g := e; omega)
  have hRb5 := hRb.fr hf5 (fun e => hgg e.symm)
  have hD5 : Dq v s s.length ((List.replicate (s.length + 1) (-1)).set s.length 0) := by
    refine ⟨by simp, fun j g1 g2 => ?_, fun j hj => ?_⟩
    · rw [getD_set (by simp), if_pos (by omega), fp_end (by omega)]; rfl
    · rw [getD_set (by simp), if_neg (by omega), List.getD_eq_getElem?_getD, List.getElem?_replicate, if_pos (by omega)]; rfl
  have hM5 : Mk v s 0 0 (bz (s.length + 1)) := Mk.zero v s (bz_len _) fun j hj => by rw [bz_at (by omega)]; exact decide_eq_true_iff
  clear hb4 h1 h2 h3 hput hb5 hf5 hB hf hRb
  repeat (first
    | refine stepF_ok tabOk [] (m := 400) rfl ?_
    | refine stepF_ok tabOk [] (m := 16) rfl ?_
    | refine stepF_ok tabOk [] (m := 3) rfl ?_
    | refine stepF_ok tabOk [] (m := 0) rfl ?_
    | refine ev_load rfl rfl tabOk rfl rfl (by assumption) ?_
    | refine ev_loadB rfl rfl tabOk rfl rfl (by assumption) (by rfl) ?_
    | refine ev_loadAggB rfl rfl tabOk rfl rfl (by assumption) (by rfl) ?_
    | refine ev_arith rfl rfl rfl rfl rfl (by simp only [lowK, hiK]; omega) ?_
    | refine ev_rem rfl rfl rfl rfl (by omega) (by omega) ?_
    | refine ev_quo rfl rfl rfl rfl (by omega) (by omega) (by simp only [hiK]; omega) ?_
    | refine ev_index rfl rfl tabOk rfl rfl rfl (by omega) (by omega) ?_
    | refine ev_indexA rfl rfl tabOk rfl rfl rfl (by omega) (by omega) rfl ?_
    | refine ev_convB rfl rfl tabOk rfl rfl rfl rfl ?_
    | refine ev_conv rfl rfl tabOk rfl rfl rfl (by simp only [lowK, hiK]; omega) ?_)
  obtain ⟨r0, hr0⟩ : ∃ r, r = (List.replicate (s.length + 1) (-1 : Int)).set s.length 0 := ⟨_, rfl⟩
  rw [← hr0] at hR5 hD5
  refine ev_loop (α := Nat × Nat) (fun y => [(1, sv s), (2, .pointer (some ⟨p, 0, none⟩)), (9, .slice (some ⟨g, 0, none⟩) (s.length + 1) cap), (10, .slice (some ⟨g', 0, none⟩) (s.length + 1) cap'), (12, i64 y.2), (13, i64 y.1)])
    (fun y w' => y.1 ≤ s.length + 1 ∧ (∃ r, Rb w' g' cap' r ∧ Mk v s y.1 0 r) ∧ Far v s y.1 y.2 ∧ Rw w' g cap r0 ∧ Fr no w w' ∧ Blk w' p [.slice A v.texts.length c, .slice B v.merges.length d] 28) (fun y => s.length + 1 - y.1) (0, 0) ⟨rfl, rfl, rfl, rfl, rfl, rfl, trivial⟩ ⟨Nat.zero_le _, ⟨_, hRb5, hM5⟩, ⟨.zero, fun j _ h => absurd h (Nat.not_lt_zero _)⟩, hR5, hf05, hB5⟩ ?_
  clear hRb5 hM5 hR5 hf05 hB5
  rintro ⟨q, f⟩ w5 ⟨hq, ⟨r, hRb, hM⟩, hF, hR, hf, hB⟩
  simp only at hq hM hF
  repeat (first
    | refine stepF_ok tabOk [] (m := 400) rfl ?_
    | refine stepF_ok tabOk [] (m := 16) rfl ?_
    | refine stepF_ok tabOk [] (m := 3) rfl ?_
    | refine stepF_ok tabOk [] (m := 0) rfl ?_
    | refine ev_load rfl rfl tabOk rfl rfl (by assumption) ?_
    | refine ev_loadB rfl rfl tabOk rfl rfl (by assumption) (by rfl) ?_
    | refine ev_loadAggB rfl rfl tabOk rfl rfl (by assumption) (by rfl) ?_
    | refine ev_arith rfl rfl rfl rfl rfl (by simp only [lowK, hiK]; omega) ?_
    | refine ev_rem rfl rfl rfl rfl (by omega) (by omega) ?_
    | refine ev_quo rfl rfl rfl rfl (by omega) (by omega) (by simp only [hiK]; omega) ?_
    | refine ev_index rfl rfl tabOk rfl rfl rfl (by omega) (by omega) ?_
    | refine ev_indexA rfl rfl tabOk rfl rfl rfl (by omega) (by omega) rfl ?_
    | refine ev_convB rfl rfl tabOk rfl rfl rfl rfl ?_
    | refine ev_conv rfl rfl tabOk rfl rfl rfl (by simp only [lowK, hiK]; omega) ?_)
  refine ev_condD rfl (fun hlt => ?_) (fun hlt => ?_)
  · have hq1 : q ≤ s.length := by have : (q : Int) ≤ (s.length : Int) := hlt; omega
    have hx := hRb.cell (j := q) (by rw [hM.1]; omega)
    have hat := hM.at hok hq1
    obtain ⟨b, hb⟩ : ∃ b, b = r.getD q false := ⟨_, rfl⟩
    rw [← hb] at hx hat
    have hx : w5.cell? ⟨g', 0 + (q : Int).toNat * 1, none⟩ = some (bo b) := hx
    repeat (first
      | refine stepF_ok tabOk [] (m := 400) rfl ?_
      | refine stepF_ok tabOk [] (m := 16) rfl ?_
      | refine stepF_ok tabOk [] (m := 3) rfl ?_
      | refine stepF_ok tabOk [] (m := 0) rfl ?_
      | refine ev_load rfl rfl tabOk rfl rfl (by assumption) ?_
      | refine ev_loadB rfl rfl tabOk rfl rfl (by assumption) (by rfl) ?_
      | refine ev_loadAggB rfl rfl tabOk rfl rfl (by assumption) (by rfl) ?_
      | refine ev_arith rfl rfl rfl rfl rfl (by simp only [lowK, hiK]; omega) ?_
      | refine ev_rem rfl rfl rfl rfl (by omega) (by omega) ?_
      | refine ev_quo rfl rfl rfl rfl (by omega) (by omega) (by simp only [hiK]; omega) ?_
      | refine ev_index rfl rfl tabOk rfl rfl rfl (by omega) (by omega) ?_
      | refine ev_indexA rfl rfl tabOk rfl rfl rfl (by omega) (by omega) rfl ?_
      | refine ev_convB rfl rfl tabOk rfl rfl rfl rfl ?_
      | refine ev_conv rfl rfl tabOk rfl rfl rfl (by simp only [lowK, hiK]; omega) ?_)
    refine ev_indexAddr (len := s.length + 1) (i := q) rfl rfl tabOk rfl rfl rfl (by omega) (by omega) ?_
    cases b with
    | false =>
      have hnr : ¬ v.Rch s q := fun h => by have := hat.2 h; cases this
      repeat (first
        | refine stepF_ok tabOk [] (m := 400) rfl ?_
        | refine stepF_ok tabOk [] (m := 16) rfl ?_
        | refine stepF_ok tabOk [] (m := 3) rfl ?_
        | refine stepF_ok tabOk [] (m := 0) rfl ?_
        | refine ev_load rfl rfl tabOk rfl rfl (by assumption) ?_
        | refine ev_loadB rfl rfl tabOk rfl rfl (by assumption) (by rfl) ?_
        | refine ev_loadAggB rfl rfl tabOk rfl rfl (by assumption) (by rfl) ?_
        | refine ev_arith rfl rfl rfl rfl rfl (by simp only [lowK, hiK]; omega) ?_
        | refine ev_rem rfl rfl rfl rfl (by omega) (by omega) ?_
        | refine ev_quo rfl rfl rfl rfl (by omega) (by omega) (by simp only [hiK]; omega) ?_
        | refine ev_index rfl rfl tabOk rfl rfl rfl (by omega) (by omega) ?_
        | refine ev_indexA rfl rfl tabOk rfl rfl rfl (by omega) (by omega) rfl ?_
        | refine ev_convB rfl rfl tabOk rfl rfl rfl rfl ?_
        | refine ev_conv rfl rfl tabOk rfl rfl rfl (by simp only [lowK, hiK]; omega) ?_)
      exact ev_next (q + 1, f) (by simp only; omega) ⟨by simp only; omega, ⟨r, hRb, hM.skip hnr⟩, hF.skip hnr, hR, hf, hB⟩ ⟨rfl, rfl, rfl, rfl, rfl, rfl, trivial⟩
    | true =>
      have hr := hat.1 rfl
      have hM1 : Mk v s q (0 + 1) r := hM.no fun h => absurd h.1 (Nat.lt_irrefl 0)
      have hF2 := Far.here hr
      clear hx hM hF hb hat
      repeat (first
        | refine stepF_ok tabOk [] (m := 400) rfl ?_
        | refine stepF_ok tabOk [] (m := 16) rfl ?_
        | refine stepF_ok tabOk [] (m := 3) rfl ?_
        | refine stepF_ok tabOk [] (m := 0) rfl ?_
        | refine ev_load rfl rfl tabOk rfl rfl (by assumption) ?_
        | refine ev_loadB rfl rfl tabOk rfl rfl (by assumption) (by rfl) ?_
        | refine ev_loadAggB rfl rfl tabOk rfl rfl (by assumption) (by rfl) ?_
        | refine ev_arith rfl rfl rfl rfl rfl (by simp only [lowK, hiK]; omega) ?_
        | refine ev_rem rfl rfl rfl rfl (by omega) (by omega) ?_
        | refine ev_quo rfl rfl rfl rfl (by omega) (by omega) (by simp only [hiK]; omega) ?_
        | refine ev_index rfl rfl tabOk rfl rfl rfl (by omega) (by omega) ?_
        | refine ev_indexA rfl rfl tabOk rfl rfl rfl (by omega) (by omega) rfl ?_
        | refine ev_convB rfl rfl tabOk rfl rfl rfl rfl ?_
        | refine ev_conv rfl rfl tabOk rfl rfl rfl (by simp only [lowK, hiK]; omega) ?_)
      refine ev_loop (α := Nat) (fun k => [(1, sv s), (2, .pointer (some ⟨p, 0, none⟩)), (9, .slice (some ⟨g, 0, none⟩) (s.length + 1) cap), (10, .slice (some ⟨g', 0, none⟩) (s.length + 1) cap'), (12, i64 q), (13, i64 q), (14, i64 k)])
        (fun k w' => k ≤ v.texts.length ∧ (∃ r, Rb w' g' cap' r ∧ Mk v s q k r) ∧ Rw w' g cap r0 ∧ Fr no w w' ∧ Blk w' p [.slice A v.texts.length c, .slice B v.merges.length d] 28) (fun k => v.texts.length - k) 1 ⟨rfl, rfl, rfl, rfl, rfl, rfl, rfl, trivial⟩ ⟨by omega, ⟨r, hRb, hM1⟩, hR, hf, hB⟩ ?_
      clear hRb hM1 hR hf hB
      rintro k w6 ⟨hk, ⟨r, hRb, hM⟩, hR, hf, hB⟩
      repeat (first
        | refine stepF_ok tabOk [] (m := 400) rfl ?_
        | refine stepF_ok tabOk [] (m := 16) rfl ?_
        | refine stepF_ok tabOk [] (m := 3) rfl ?_
        | refine stepF_ok tabOk [] (m := 0) rfl ?_
        | refine ev_load rfl rfl tabOk rfl rfl (by assumption) ?_
        | refine ev_loadB rfl rfl tabOk rfl rfl (by assumption) (by rfl) ?_
        | refine ev_loadAggB rfl rfl tabOk rfl rfl (by assumption) (by rfl) ?_
        | refine ev_arith rfl rfl rfl rfl rfl (by simp only [lowK, hiK]; omega) ?_
        | refine ev_rem rfl rfl rfl rfl (by omega) (by omega) ?_
        | refine ev_quo rfl rfl rfl rfl (by omega) (by omega) (by simp only [hiK]; omega) ?_
        | refine ev_index rfl rfl tabOk rfl rfl rfl (by omega) (by omega) ?_
        | refine ev_indexA rfl rfl tabOk rfl rfl rfl (by omega) (by omega) rfl ?_
        | refine ev_convB rfl rfl tabOk rfl rfl rfl rfl ?_
        | refine ev_conv rfl rfl tabOk rfl rfl rfl (by simp only [lowK, hiK]; omega) ?_)
      refine ev_condD rfl (fun hk2 => ?_) (fun hk2 => ?_)
      · have hk1 : k < v.texts.length := by omega
        obtain ⟨ga, oa, e2, hy⟩ := strs_at (hV.fr0 hf).1 hk1
        subst e2
        have hy : w6.cell? ⟨ga, oa + (k : Int).toNat * 1, none⟩ = some (sv (v.t k)) := hy
        have hle1 := hS.len k
        repeat (first
          | refine stepF_ok tabOk [] (m := 400) rfl ?_
          | refine stepF_ok tabOk [] (m := 16) rfl ?_
          | refine stepF_ok tabOk [] (m := 3) rfl ?_
          | refine stepF_ok tabOk [] (m := 0) rfl ?_
          | refine ev_load rfl rfl tabOk rfl rfl (by assumption) ?_
          | refine ev_loadB rfl rfl tabOk rfl rfl (by assumption) (by rfl) ?_
          | refine ev_loadAggB rfl rfl tabOk rfl rfl (by assumption) (by rfl) ?_
          | refine ev_arith rfl rfl rfl rfl rfl (by simp only [lowK, hiK]; omega) ?_
          | refine ev_rem rfl rfl rfl rfl (by omega) (by omega) ?_
          | refine ev_quo rfl rfl rfl rfl (by omega) (by omega) (by simp only [hiK]; omega) ?_
          | refine ev_index rfl rfl tabOk rfl rfl rfl (by omega) (by omega) ?_
          | refine ev_indexA rfl rfl tabOk rfl rfl rfl (by omega) (by omega) rfl ?_
          | refine ev_convB rfl rfl tabOk rfl rfl rfl rfl ?_
          | refine ev_conv rfl rfl tabOk rfl rfl rfl (by simp only [lowK, hiK]; omega) ?_)
        refine ev_indexAddr (len := v.texts.length) (i := k) rfl rfl tabOk rfl rfl rfl (by omega) (by omega) ?_
        repeat (first
          | refine stepF_ok tabOk [] (m := 400) rfl ?_
          | refine stepF_ok tabOk [] (m := 16) rfl ?_
          | refine stepF_ok tabOk [] (m := 3) rfl ?_
          | refine stepF_ok tabOk [] (m := 0) rfl ?_
          | refine ev_load rfl rfl tabOk rfl rfl (by assumption) ?_
          | refine ev_loadB rfl rfl tabOk rfl rfl (by assumption) (by rfl) ?_
          | refine ev_loadAggB rfl rfl tabOk rfl rfl (by assumption) (by rfl) ?_
          | refine ev_arith rfl rfl rfl rfl rfl (by simp only [lowK, hiK]; omega) ?_
          | refine ev_rem rfl rfl rfl rfl (by omega) (by omega) ?_
          | refine ev_quo rfl rfl rfl rfl (by omega) (by omega) (by simp only [hiK]; omega) ?_
          | refine ev_index rfl rfl tabOk rfl rfl rfl (by omega) (by omega) ?_
          | refine ev_indexA rfl rfl tabOk rfl rfl rfl (by omega) (by omega) rfl ?_
          | refine ev_convB rfl rfl tabOk rfl rfl rfl rfl ?_
          | refine ev_conv rfl rfl tabOk rfl rfl rfl (by simp only [lowK, hiK]; omega) ?_)
        refine ev_call rfl rfl rfl (refStands (v.t k) s q _ hq1 hs hle1) (fun u w7 hu => ?_)
        obtain ⟨rfl, rfl⟩ := hu
        refine ev_condD rfl (fun h2 => ?_) (fun h2 => ?_)
        · have hk0 : 0 < k := by
            rcases Nat.eq_zero_or_pos k with e | e
            · subst e; exact absurd (t_zero hok) h2.1
            · exact e
          have hsd : v.sd s q k := ⟨hk0, h2.2⟩
          have hle := sd_le hsd hq1
          have hM2 := hM.yes hr hk1 hsd
          obtain ⟨cs, hb5, h1, h3, h4⟩ := hRb
          have hput := Rb.put (j := q + (v.t k).length) (x := true) h1 h3 h4 (by rw [hM.1]; omega)
          have hrl := hM.1
          repeat (first
            | refine stepF_ok tabOk [] (m := 400) rfl ?_
            | refine stepF_ok tabOk [] (m := 16) rfl ?_
            | refine stepF_ok tabOk [] (m := 3) rfl ?_
            | refine stepF_ok tabOk [] (m := 0) rfl ?_
            | refine ev_load rfl rfl tabOk rfl rfl (by assumption) ?_
            | refine ev_loadB rfl rfl tabOk rfl rfl (by assumption) (by rfl) ?_
            | refine ev_loadAggB rfl rfl tabOk rfl rfl (by assumption) (by rfl) ?_
            | refine ev_arith rfl rfl rfl rfl rfl (by simp only [lowK, hiK]; omega) ?_
            | refine ev_rem rfl rfl rfl rfl (by omega) (by omega) ?_
            | refine ev_quo rfl rfl rfl rfl (by omega) (by omega) (by simp only [hiK]; omega) ?_
            | refine ev_index rfl rfl tabOk rfl rfl rfl (by omega) (by omega) ?_
            | refine ev_indexA rfl rfl tabOk rfl rfl rfl (by omega) (by omega) rfl ?_
            | refine ev_convB rfl rfl tabOk rfl rfl rfl rfl ?_
            | refine ev_conv rfl rfl tabOk rfl rfl rfl (by simp only [lowK, hiK]; omega) ?_)
          refine ev_indexAddr (len := v.texts.length) (i := k) rfl rfl tabOk rfl rfl rfl (by omega) (by omega) ?_
          repeat (first
            | refine stepF_ok tabOk [] (m := 400) rfl ?_
            | refine stepF_ok tabOk [] (m := 16) rfl ?_
            | refine stepF_ok tabOk [] (m := 3) rfl ?_
            | refine stepF_ok tabOk [] (m := 0) rfl ?_
            | refine ev_load rfl rfl tabOk rfl rfl (by assumption) ?_
            | refine ev_loadB rfl rfl tabOk rfl rfl (by assumption) (by rfl) ?_
            | refine ev_loadAggB rfl rfl tabOk rfl rfl (by assumption) (by rfl) ?_
            | refine ev_arith rfl rfl rfl rfl rfl (by simp only [lowK, hiK]; omega) ?_
            | refine ev_rem rfl rfl rfl rfl (by omega) (by omega) ?_
            | refine ev_quo rfl rfl rfl rfl (by omega) (by omega) (by simp only [hiK]; omega) ?_
            | refine ev_index rfl rfl tabOk rfl rfl rfl (by omega) (by omega) ?_
            | refine ev_indexA rfl rfl tabOk rfl rfl rfl (by omega) (by omega) rfl ?_
            | refine ev_convB rfl rfl tabOk rfl rfl rfl rfl ?_
            | refine ev_conv rfl rfl tabOk rfl rfl rfl (by simp only [lowK, hiK]; omega) ?_)
          refine ev_indexAddr (len := s.length + 1) (i := (q : Int) + (v.t k).length) rfl rfl tabOk rfl rfl rfl (by omega) (by omega) ?_
          rw [show 0 + ((q : Int) + (v.t k).length).toNat * 1 = q + (v.t k).length by omega]
          refine ev_store tabOk rfl rfl rfl rfl rfl rfl hb5 (by rw [Nat.blt_eq]; omega) (fun w7 hb7 hf7 => ?_)
          have hR7 : Rb w7 g' cap' _ := ⟨_, hb7, hput⟩
          have hgl : g' < w7.heap.size := hR7.lt
          have hf07 : Fr no w w7 := hf.trans hf7 (fun b hb e => by have : b = g' := e; omega)
          have hB7 := hB.fr hf7 (fun e => by have : p = g' := e; omega)
          have hRw7 := hR.fr hf7 (fun e => hgg e)
          clear hb5 h1 h3 h4 hput hb7 hf7 hB hy hf hM hR
          repeat (first
            | refine stepF_ok tabOk [] (m := 400) rfl ?_
            | refine stepF_ok tabOk [] (m := 16) rfl ?_
            | refine stepF_ok tabOk [] (m := 3) rfl ?_
            | refine stepF_ok tabOk [] (m := 0) rfl ?_
            | refine ev_load rfl rfl tabOk rfl rfl (by assumption) ?_
            | refine ev_loadB rfl rfl tabOk rfl rfl (by assumption) (by rfl) ?_
            | refine ev_loadAggB rfl rfl tabOk rfl rfl (by assumption) (by rfl) ?_
            | refine ev_arith rfl rfl rfl rfl rfl (by simp only [lowK, hiK]; omega) ?_
            | refine ev_rem rfl rfl rfl rfl (by omega) (by omega) ?_
            | refine ev_quo rfl rfl rfl rfl (by omega) (by omega) (by simp only [hiK]; omega) ?_
            | refine ev_index rfl rfl tabOk rfl rfl rfl (by omega) (by omega) ?_
            | refine ev_indexA rfl rfl tabOk rfl rfl rfl (by omega) (by omega) rfl ?_
            | refine ev_convB rfl rfl tabOk rfl rfl rfl rfl ?_
            | refine ev_conv rfl rfl tabOk rfl rfl rfl (by simp only [lowK, hiK]; omega) ?_)
          exact ev_next (k + 1) (by omega) ⟨by omega, ⟨_, hR7, hM2⟩, hRw7, hf07, hB7⟩ ⟨rfl, rfl, rfl, rfl, rfl, rfl, rfl, trivial⟩
        · have hM2 : Mk v s q (k + 1) r := hM.no fun h => h2 ⟨fun e => by have := t_pos hok h.1 hk1; rw [e] at this; exact Nat.lt_irrefl 0 this, h.2⟩
          repeat (first
            | refine stepF_ok tabOk [] (m := 400) rfl ?_
            | refine stepF_ok tabOk [] (m := 16) rfl ?_
            | refine stepF_ok tabOk [] (m := 3) rfl ?_
            | refine stepF_ok tabOk [] (m := 0) rfl ?_
            | refine ev_load rfl rfl tabOk rfl rfl (by assumption) ?_
            | refine ev_loadB rfl rfl tabOk rfl rfl (by assumption) (by rfl) ?_
            | refine ev_loadAggB rfl rfl tabOk rfl rfl (by assumption) (by rfl) ?_
            | refine ev_arith rfl rfl rfl rfl rfl (by simp only [lowK, hiK]; omega) ?_
            | refine ev_rem rfl rfl rfl rfl (by omega) (by omega) ?_
            | refine ev_quo rfl rfl rfl rfl (by omega) (by omega) (by simp only [hiK]; omega) ?_
            | refine ev_index rfl rfl tabOk rfl rfl rfl (by omega) (by omega) ?_
            | refine ev_indexA rfl rfl tabOk rfl rfl rfl (by omega) (by omega) rfl ?_
            | refine ev_convB rfl rfl tabOk rfl rfl rfl rfl ?_
            | refine ev_conv rfl rfl tabOk rfl rfl rfl (by simp only [lowK, hiK]; omega) ?_)
          exact ev_next (k + 1) (by omega) ⟨by omega, ⟨_, hRb, hM2⟩, hR, hf, hB⟩ ⟨rfl, rfl, rfl, rfl, rfl, rfl, rfl, trivial⟩
      · have hkn : k = v.texts.length := by omega
        subst hkn
        repeat (first
          | refine stepF_ok tabOk [] (m := 400) rfl ?_
          | refine stepF_ok tabOk [] (m := 16) rfl ?_
          | refine stepF_ok tabOk [] (m := 3) rfl ?_
          | refine stepF_ok tabOk [] (m := 0) rfl ?_
          | refine ev_load rfl rfl tabOk rfl rfl (by assumption) ?_
          | refine ev_loadB rfl rfl tabOk rfl rfl (by assumption) (by rfl) ?_
          | refine ev_loadAggB rfl rfl tabOk rfl rfl (by assumption) (by rfl) ?_
          | refine ev_arith rfl rfl rfl rfl rfl (by simp only [lowK, hiK]; omega) ?_
          | refine ev_rem rfl rfl rfl rfl (by omega) (by omega) ?_
          | refine ev_quo rfl rfl rfl rfl (by omega) (by omega) (by simp only [hiK]; omega) ?_
          | refine ev_index rfl rfl tabOk rfl rfl rfl (by omega) (by omega) ?_
          | refine ev_indexA rfl rfl tabOk rfl rfl rfl (by omega) (by omega) rfl ?_
          | refine ev_convB rfl rfl tabOk rfl rfl rfl rfl ?_
          | refine ev_conv rfl rfl tabOk rfl rfl rfl (by simp only [lowK, hiK]; omega) ?_)
        exact ev_next (q + 1, q) (by simp only; omega) ⟨by simp only; omega, ⟨r, hRb, hM.next⟩, hF2, hR, hf, hB⟩ ⟨rfl, rfl, rfl, rfl, rfl, rfl, trivial⟩
  have hqe : q = s.length + 1 := by have : ¬ (q : Int) ≤ (s.length : Int) := hlt; omega
  subst hqe
  have hx := hRb.cell (j := s.length) (by rw [hM.1]; omega)
  have hat : r.getD s.length false = true ↔ v.fp s 0 ≤ s.length := by
    rw [← rch_all hok, hM.2 _ (Nat.le_refl _)]
    exact ⟨mk_rch, fun h => rch_mk2 hok h (by omega)⟩
  obtain ⟨b, hb⟩ : ∃ b, b = r.getD s.length false := ⟨_, rfl⟩
  rw [← hb] at hx hat
  clear hb hlt hq
  repeat (first
    | refine stepF_ok tabOk [] (m := 400) rfl ?_
    | refine stepF_ok tabOk [] (m := 16) rfl ?_
    | refine stepF_ok tabOk [] (m := 3) rfl ?_
    | refine stepF_ok tabOk [] (m := 0) rfl ?_
    | refine ev_load rfl rfl tabOk rfl rfl (by assumption) ?_
    | refine ev_loadB rfl rfl tabOk rfl rfl (by assumption) (by rfl) ?_
    | refine ev_loadAggB rfl rfl tabOk rfl rfl (by assumption) (by rfl) ?_
    | refine ev_arith rfl rfl rfl rfl rfl (by simp only [lowK, hiK]; omega) ?_
    | refine ev_rem rfl rfl rfl rfl (by omega) (by omega) ?_
    | refine ev_quo rfl rfl rfl rfl (by omega) (by omega) (by simp only [hiK]; omega) ?_
    | refine ev_index rfl rfl tabOk rfl rfl rfl (by omega) (by omega) ?_
    | refine ev_indexA rfl rfl tabOk rfl rfl rfl (by omega) (by omega) rfl ?_
    | refine ev_convB rfl rfl tabOk rfl rfl rfl rfl ?_
    | refine ev_conv rfl rfl tabOk rfl rfl rfl (by simp only [lowK, hiK]; omega) ?_)
  refine ev_indexAddr (len := s.length + 1) (i := s.length) rfl rfl tabOk rfl rfl rfl (by omega) (by omega) ?_
  cases b with
  | false =>
    have h2 : ¬ v.fp s 0 ≤ s.length := fun h => by have := hat.2 h; cases this
    repeat (first
      | refine stepF_ok tabOk [] (m := 400) rfl ?_
      | refine stepF_ok tabOk [] (m := 16) rfl ?_
      | refine stepF_ok tabOk [] (m := 3) rfl ?_
      | refine stepF_ok tabOk [] (m := 0) rfl ?_
      | refine ev_load rfl rfl tabOk rfl rfl (by assumption) ?_
      | refine ev_loadB rfl rfl tabOk rfl rfl (by assumption) (by rfl) ?_
      | refine ev_loadAggB rfl rfl tabOk rfl rfl (by assumption) (by rfl) ?_
      | refine ev_arith rfl rfl rfl rfl rfl (by simp only [lowK, hiK]; omega) ?_
      | refine ev_rem rfl rfl rfl rfl (by omega) (by omega) ?_
      | refine ev_quo rfl rfl rfl rfl (by omega) (by omega) (by simp only [hiK]; omega) ?_
      | refine ev_index rfl rfl tabOk rfl rfl rfl (by omega) (by omega) ?_
      | refine ev_indexA rfl rfl tabOk rfl rfl rfl (by omega) (by omega) rfl ?_
      | refine ev_convB rfl rfl tabOk rfl rfl rfl rfl ?_
      | refine ev_conv rfl rfl tabOk rfl rfl rfl (by simp only [lowK, hiK]; omega) ?_)
    refine ev_buildSlice tabOk rfl rfl rfl inf3 rfl rfl rfl (by simp) rfl (fun q6 w6 hq6 hb6 hf6 => ?_)
    have ho6 : OI w6 (.slice (some ⟨q6, 0, none⟩) 0 0) [] := own_of_blk (m := 0) (sz := 1) hb6 rfl (by omega)
    repeat (first
      | refine stepF_ok tabOk [] (m := 400) rfl ?_
      | refine stepF_ok tabOk [] (m := 16) rfl ?_
      | refine stepF_ok tabOk [] (m := 3) rfl ?_
      | refine stepF_ok tabOk [] (m := 0) rfl ?_
      | refine ev_load rfl rfl tabOk rfl rfl (by assumption) ?_
      | refine ev_loadB rfl rfl tabOk rfl rfl (by assumption) (by rfl) ?_
      | refine ev_loadAggB rfl rfl tabOk rfl rfl (by assumption) (by rfl) ?_
      | refine ev_arith rfl rfl rfl rfl rfl (by simp only [lowK, hiK]; omega) ?_
      | refine ev_rem rfl rfl rfl rfl (by omega) (by omega) ?_
      | refine ev_quo rfl rfl rfl rfl (by omega) (by omega) (by simp only [hiK]; omega) ?_
      | refine ev_index rfl rfl tabOk rfl rfl rfl (by omega) (by omega) ?_
      | refine ev_indexA rfl rfl tabOk rfl rfl rfl (by omega) (by omega) rfl ?_
      | refine ev_convB rfl rfl tabOk rfl rfl rfl rfl ?_
      | refine ev_conv rfl rfl tabOk rfl rfl rfl (by simp only [lowK, hiK]; omega) ?_)
    exact ret3 (.inr rfl) rfl rfl rfl rfl ⟨⟨_, ([], f, 132), rfl, ho6, fun h => absurd h0 h, fun _ h => absurd h h2, fun _ _ => ⟨rfl, rfl, hF.1, hF.all⟩⟩, hf.tr hf6⟩
  | true =>
    have h2 := hat.1 rfl
    repeat (first
      | refine stepF_ok tabOk [] (m := 400) rfl ?_
      | refine stepF_ok tabOk [] (m := 16) rfl ?_
      | refine stepF_ok tabOk [] (m := 3) rfl ?_
      | refine stepF_ok tabOk [] (m := 0) rfl ?_
      | refine ev_load rfl rfl tabOk rfl rfl (by assumption) ?_
      | refine ev_loadB rfl rfl tabOk rfl rfl (by assumption) (by rfl) ?_
      | refine ev_loadAggB rfl rfl tabOk rfl rfl (by assumption) (by rfl) ?_
      | refine ev_arith rfl rfl rfl rfl rfl (by simp only [lowK, hiK]; omega) ?_
      | refine ev_rem rfl rfl rfl rfl (by omega) (by omega) ?_
      | refine ev_quo rfl rfl rfl rfl (by omega) (by omega) (by simp only [hiK]; omega) ?_
      | refine ev_index rfl rfl tabOk rfl rfl rfl (by omega) (by omega) ?_
      | refine ev_indexA rfl rfl tabOk rfl rfl rfl (by omega) (by omega) rfl ?_
      | refine ev_convB rfl rfl tabOk rfl rfl rfl rfl ?_
      | refine ev_conv rfl rfl tabOk rfl rfl rfl (by simp only [lowK, hiK]; omega) ?_)
    clear hx hat hRb hM hF
    refine ev_loop (α := Nat) (fun q => [(1, sv s), (2, .pointer (some ⟨p, 0, none⟩)), (9, .slice (some ⟨g, 0, none⟩) (s.length + 1) cap), (15, .int .i64 ((q : Int) - 1))])
      (fun q w' => q ≤ s.length ∧ (∃ r, Rw w' g cap r ∧ Dq v s q r) ∧ Fr no w w' ∧ Blk w' p [.slice A v.texts.length c, .slice B v.merges.length d] 28) (fun q => q) s.length ⟨rfl, rfl, rfl, rfl, trivial⟩ ⟨Nat.le_refl _, ⟨r0, hR, hD5⟩, hf, hB⟩ ?_
    clear hR hD5 hr0 hf hB r
    rintro q w3 ⟨hq, ⟨r, hR, hT⟩, hf, hB⟩
    repeat (first
      | refine stepF_ok tabOk [] (m := 400) rfl ?_
      | refine stepF_ok tabOk [] (m := 16) rfl ?_
      | refine stepF_ok tabOk [] (m := 3) rfl ?_
      | refine stepF_ok tabOk [] (m := 0) rfl ?_
      | refine ev_load rfl rfl tabOk rfl rfl (by assumption) ?_
      | refine ev_loadB rfl rfl tabOk rfl rfl (by assumption) (by rfl) ?_
      | refine ev_loadAggB rfl rfl tabOk rfl rfl (by assumption) (by rfl) ?_
      | refine ev_arith rfl rfl rfl rfl rfl (by simp only [lowK, hiK]; omega) ?_
      | refine ev_rem rfl rfl rfl rfl (by omega) (by omega) ?_
      | refine ev_quo rfl rfl rfl rfl (by omega) (by omega) (by simp only [hiK]; omega) ?_
      | refine ev_index rfl rfl tabOk rfl rfl rfl (by omega) (by omega) ?_
      | refine ev_indexA rfl rfl tabOk rfl rfl rfl (by omega) (by omega) rfl ?_
      | refine ev_convB rfl rfl tabOk rfl rfl rfl rfl ?_
      | refine ev_conv rfl rfl tabOk rfl rfl rfl (by simp only [lowK, hiK]; omega) ?_)
    refine ev_condD rfl (fun hlt => ?_) (fun hlt => ?_)
    · obtain ⟨x, rfl⟩ : ∃ x, q = x + 1 := ⟨q - 1, by omega⟩
      have hxs : x < s.length := by omega
      have hT4 := Dk.start hT
      clear hT
      rw [show (((x + 1 : Nat) : Int) - 1) = (x : Int) by omega]
      repeat (first
        | refine stepF_ok tabOk [] (m := 400) rfl ?_
        | refine stepF_ok tabOk [] (m := 16) rfl ?_
        | refine stepF_ok tabOk [] (m := 3) rfl ?_
        | refine stepF_ok tabOk [] (m := 0) rfl ?_
        | refine ev_load rfl rfl tabOk rfl rfl (by assumption) ?_
        | refine ev_loadB rfl rfl tabOk rfl rfl (by assumption) (by rfl) ?_
        | refine ev_loadAggB rfl rfl tabOk rfl rfl (by assumption) (by rfl) ?_
        | refine ev_arith rfl rfl rfl rfl rfl (by simp only [lowK, hiK]; omega) ?_
        | refine ev_rem rfl rfl rfl rfl (by omega) (by omega) ?_
        | refine ev_quo rfl rfl rfl rfl (by omega) (by omega) (by simp only [hiK]; omega) ?_
        | refine ev_index rfl rfl tabOk rfl rfl rfl (by omega) (by omega) ?_
        | refine ev_indexA rfl rfl tabOk rfl rfl rfl (by omega) (by omega) rfl ?_
        | refine ev_convB rfl rfl tabOk rfl rfl rfl rfl ?_
        | refine ev_conv rfl rfl tabOk rfl rfl rfl (by simp only [lowK, hiK]; omega) ?_)
      refine ev_loop (α := Nat) (fun k => [(1, sv s), (2, .pointer (some ⟨p, 0, none⟩)), (9, .slice (some ⟨g, 0, none⟩) (s.length + 1) cap), (15, i64 x), (16, i64 k)])
        (fun k w' => k ≤ v.texts.length ∧ (∃ r, Rw w' g cap r ∧ Dk v s x k r) ∧ Fr no w w' ∧ Blk w' p [.slice A v.texts.length c, .slice B v.merges.length d] 28) (fun k => v.texts.length - k) 1 ⟨rfl, rfl, rfl, rfl, rfl, trivial⟩ ⟨by omega, ⟨_, hR, hT4⟩, hf, hB⟩ ?_
      clear hR hT4 hf hB
      rintro k w5 ⟨hk, ⟨r, hR, hT⟩, hf, hB⟩
      repeat (first
        | refine stepF_ok tabOk [] (m := 400) rfl ?_
        | refine stepF_ok tabOk [] (m := 16) rfl ?_
        | refine stepF_ok tabOk [] (m := 3) rfl ?_
        | refine stepF_ok tabOk [] (m := 0) rfl ?_
        | refine ev_load rfl rfl tabOk rfl rfl (by assumption) ?_
        | refine ev_loadB rfl rfl tabOk rfl rfl (by assumption) (by rfl) ?_
        | refine ev_loadAggB rfl rfl tabOk rfl rfl (by assumption) (by rfl) ?_
        | refine ev_arith rfl rfl rfl rfl rfl (by simp only [lowK, hiK]; omega) ?_
        | refine ev_rem rfl rfl rfl rfl (by omega) (by omega) ?_
        | refine ev_quo rfl rfl rfl rfl (by omega) (by omega) (by simp only [hiK]; omega) ?_
        | refine ev_index rfl rfl tabOk rfl rfl rfl (by omega) (by omega) ?_
        | refine ev_indexA rfl rfl tabOk rfl rfl rfl (by omega) (by omega) rfl ?_
        | refine ev_convB rfl rfl tabOk rfl rfl rfl rfl ?_
        | refine ev_conv rfl rfl tabOk rfl rfl rfl (by simp only [lowK, hiK]; omega) ?_)
      refine ev_condD rfl (fun hk2 => ?_) (fun hk2 => ?_)
      · have hk1 : k < v.texts.length := by omega
        obtain ⟨ga, oa, e2, hy⟩ := strs_at (hV.fr0 hf).1 hk1
        subst e2
        have hy : w5.cell? ⟨ga, oa + (k : Int).toNat * 1, none⟩ = some (sv (v.t k)) := hy
        have hle1 := hS.len k
        repeat (first
          | refine stepF_ok tabOk [] (m := 400) rfl ?_
          | refine stepF_ok tabOk [] (m := 16) rfl ?_
          | refine stepF_ok tabOk [] (m := 3) rfl ?_
          | refine stepF_ok tabOk [] (m := 0) rfl ?_
          | refine ev_load rfl rfl tabOk rfl rfl (by assumption) ?_
          | refine ev_loadB rfl rfl tabOk rfl rfl (by assumption) (by rfl) ?_
          | refine ev_loadAggB rfl rfl tabOk rfl rfl (by assumption) (by rfl) ?_
          | refine ev_arith rfl rfl rfl rfl rfl (by simp only [lowK, hiK]; omega) ?_
          | refine ev_rem rfl rfl rfl rfl (by omega) (by omega) ?_
          | refine ev_quo rfl rfl rfl rfl (by omega) (by omega) (by simp only [hiK]; omega) ?_
          | refine ev_index rfl rfl tabOk rfl rfl rfl (by omega) (by omega) ?_
          | refine ev_indexA rfl rfl tabOk rfl rfl rfl (by omega) (by omega) rfl ?_
          | refine ev_convB rfl rfl tabOk rfl rfl rfl rfl ?_
          | refine ev_conv rfl rfl tabOk rfl rfl rfl (by simp only [lowK, hiK]; omega) ?_)
        refine ev_indexAddr (len := v.texts.length) (i := k) rfl rfl tabOk rfl rfl rfl (by omega) (by omega) ?_
        repeat (first
          | refine stepF_ok tabOk [] (m := 400) rfl ?_
          | refine stepF_ok tabOk [] (m := 16) rfl ?_
          | refine stepF_ok tabOk [] (m := 3) rfl ?_
          | refine stepF_ok tabOk [] (m := 0) rfl ?_
          | refine ev_load rfl rfl tabOk rfl rfl (by assumption) ?_
          | refine ev_loadB rfl rfl tabOk rfl rfl (by assumption) (by rfl) ?_
          | refine ev_loadAggB rfl rfl tabOk rfl rfl (by assumption) (by rfl) ?_
          | refine ev_arith rfl rfl rfl rfl rfl (by simp only [lowK, hiK]; omega) ?_
          | refine ev_rem rfl rfl rfl rfl (by omega) (by omega) ?_
          | refine ev_quo rfl rfl rfl rfl (by omega) (by omega) (by simp only [hiK]; omega) ?_
          | refine ev_index rfl rfl tabOk rfl rfl rfl (by omega) (by omega) ?_
          | refine ev_indexA rfl rfl tabOk rfl rfl rfl (by omega) (by omega) rfl ?_
          | refine ev_convB rfl rfl tabOk rfl rfl rfl rfl ?_
          | refine ev_conv rfl rfl tabOk rfl rfl rfl (by simp only [lowK, hiK]; omega) ?_)
        refine ev_call rfl rfl rfl (refStands (v.t k) s x _ (by omega) hs hle1) (fun u w7 hu => ?_)
        obtain ⟨rfl, rfl⟩ := hu
        refine ev_condD rfl (fun h3 => ?_) (fun h3 => ?_)
        · have hk0 : 0 < k := by
            rcases Nat.eq_zero_or_pos k with e | e
            · subst e; exact absurd (t_zero hok) h3.1
            · exact e
          have hsd : v.sd s x k := ⟨hk0, h3.2⟩
          have hle := sd_le hsd (by omega)
          have hpos := t_pos hok hk0 hk1
          have hmy := mins_yes hsd
          have hfl := fp_lim (s := s) hok _ (x + (v.t k).length) (Nat.le_refl _)
          have hfm := fp_most v s (x + (v.t k).length)
          have hmm := mins_le (v := v) (s := s) (f := v.fp s) (p := x) k
          have hrl := hT.1
          have hc1 := hR.cell (j := x + (v.t k).length) (by omega)
          rw [hT.2.1 _ (by omega) hle] at hc1
          have hc1 : w7.cell? ⟨g, 0 + ((x : Int) + (v.t k).length).toNat * 1, none⟩ = some (i64 (eN s (v.fp s (x + (v.t k).length)))) := hc1
          have hc2 := hR.cell (j := x) (by omega)
          rw [hT.2.2.2] at hc2
          generalize hF : v.fp s (x + (v.t k).length) = F at *
          generalize hMm : v.mins s (v.fp s) x k = M at *
          repeat (first
            | refine stepF_ok tabOk [] (m := 400) rfl ?_
            | refine stepF_ok tabOk [] (m := 16) rfl ?_
            | refine stepF_ok tabOk [] (m := 3) rfl ?_
            | refine stepF_ok tabOk [] (m := 0) rfl ?_
            | refine ev_load rfl rfl tabOk rfl rfl (by assumption) ?_
            | refine ev_loadB rfl rfl tabOk rfl rfl (by assumption) (by rfl) ?_
            | refine ev_loadAggB rfl rfl tabOk rfl rfl (by assumption) (by rfl) ?_
            | refine ev_arith rfl rfl rfl rfl rfl (by simp only [lowK, hiK]; omega) ?_
            | refine ev_rem rfl rfl rfl rfl (by omega) (by omega) ?_
            | refine ev_quo rfl rfl rfl rfl (by omega) (by omega) (by simp only [hiK]; omega) ?_
            | refine ev_index rfl rfl tabOk rfl rfl rfl (by omega) (by omega) ?_
            | refine ev_indexA rfl rfl tabOk rfl rfl rfl (by omega) (by omega) rfl ?_
            | refine ev_convB rfl rfl tabOk rfl rfl rfl rfl ?_
            | refine ev_conv rfl rfl tabOk rfl rfl rfl (by simp only [lowK, hiK]; omega) ?_)
          refine ev_indexAddr (len := v.texts.length) (i := k) rfl rfl tabOk rfl rfl rfl (by omega) (by omega) ?_
          repeat (first
            | refine stepF_ok tabOk [] (m := 400) rfl ?_
            | refine stepF_ok tabOk [] (m := 16) rfl ?_
            | refine stepF_ok tabOk [] (m := 3) rfl ?_
            | refine stepF_ok tabOk [] (m := 0) rfl ?_
            | refine ev_load rfl rfl tabOk rfl rfl (by assumption) ?_
            | refine ev_loadB rfl rfl tabOk rfl rfl (by assumption) (by rfl) ?_
            | refine ev_loadAggB rfl rfl tabOk rfl rfl (by assumption) (by rfl) ?_
            | refine ev_arith rfl rfl rfl rfl rfl (by simp only [lowK, hiK]; omega) ?_
            | refine ev_rem rfl rfl rfl rfl (by omega) (by omega) ?_
            | refine ev_quo rfl rfl rfl rfl (by omega) (by omega) (by simp only [hiK]; omega) ?_
            | refine ev_index rfl rfl tabOk rfl rfl rfl (by omega) (by omega) ?_
            | refine ev_indexA rfl rfl tabOk rfl rfl rfl (by omega) (by omega) rfl ?_
            | refine ev_convB rfl rfl tabOk rfl rfl rfl rfl ?_
            | refine ev_conv rfl rfl tabOk rfl rfl rfl (by simp only [lowK, hiK]; omega) ?_)
          refine ev_indexAddr (len := s.length + 1) (i := (x : Int) + (v.t k).length) rfl rfl tabOk rfl rfl rfl (by omega) (by omega) ?_
          repeat (first
            | refine stepF_ok tabOk [] (m := 400) rfl ?_
            | refine stepF_ok tabOk [] (m := 16) rfl ?_
            | refine stepF_ok tabOk [] (m := 3) rfl ?_
            | refine stepF_ok tabOk [] (m := 0) rfl ?_
            | refine ev_load rfl rfl tabOk rfl rfl (by assumption) ?_
            | refine ev_loadB rfl rfl tabOk rfl rfl (by assumption) (by rfl) ?_
            | refine ev_loadAggB rfl rfl tabOk rfl rfl (by assumption) (by rfl) ?_
            | refine ev_arith rfl rfl rfl rfl rfl (by simp only [lowK, hiK]; omega) ?_
            | refine ev_rem rfl rfl rfl rfl (by omega) (by omega) ?_
            | refine ev_quo rfl rfl rfl rfl (by omega) (by omega) (by simp only [hiK]; omega) ?_
            | refine ev_index rfl rfl tabOk rfl rfl rfl (by omega) (by omega) ?_
            | refine ev_indexA rfl rfl tabOk rfl rfl rfl (by omega) (by omega) rfl ?_
            | refine ev_convB rfl rfl tabOk rfl rfl rfl rfl ?_
            | refine ev_conv rfl rfl tabOk rfl rfl rfl (by simp only [lowK, hiK]; omega) ?_)
          have keep : min M (F + 1) = M → k + 1 ≤ v.texts.length ∧ (∃ r, Rw w7 g cap r ∧ Dk v s x (k + 1) r) ∧ Fr no w w7 ∧ Blk w7 p [.slice (some ⟨ga, oa, none⟩) v.texts.length c, .slice B v.merges.length d] 28 := fun e => ⟨by omega, ⟨r, hR, hT.same (by rw [hmy, hMm, e])⟩, hf, hB⟩
          by_cases hFs : F ≤ s.length
          · rw [eN_yes hFs] at hc1 ⊢
            have hfl := hfl hFs
            rw [show decide ((0 : Int) ≤ (F : Int)) = true from decide_eq_true (by omega)]
            repeat (first
              | refine stepF_ok tabOk [] (m := 400) rfl ?_
              | refine stepF_ok tabOk [] (m := 16) rfl ?_
              | refine stepF_ok tabOk [] (m := 3) rfl ?_
              | refine stepF_ok tabOk [] (m := 0) rfl ?_
              | refine ev_load rfl rfl tabOk rfl rfl (by assumption) ?_
              | refine ev_loadB rfl rfl tabOk rfl rfl (by assumption) (by rfl) ?_
              | refine ev_loadAggB rfl rfl tabOk rfl rfl (by assumption) (by rfl) ?_
              | refine ev_arith rfl rfl rfl rfl rfl (by simp only [lowK, hiK]; omega) ?_
              | refine ev_rem rfl rfl rfl rfl (by omega) (by omega) ?_
              | refine ev_quo rfl rfl rfl rfl (by omega) (by omega) (by simp only [hiK]; omega) ?_
              | refine ev_index rfl rfl tabOk rfl rfl rfl (by omega) (by omega) ?_
              | refine ev_indexA rfl rfl tabOk rfl rfl rfl (by omega) (by omega) rfl ?_
              | refine ev_convB rfl rfl tabOk rfl rfl rfl rfl ?_
              | refine ev_conv rfl rfl tabOk rfl rfl rfl (by simp only [lowK, hiK]; omega) ?_)
            refine ev_indexAddr (len := s.length + 1) (i := x) rfl rfl tabOk rfl rfl rfl (by omega) (by omega) ?_
            repeat (first
              | refine stepF_ok tabOk [] (m := 400) rfl ?_
              | refine stepF_ok tabOk [] (m := 16) rfl ?_
              | refine stepF_ok tabOk [] (m := 3) rfl ?_
              | refine stepF_ok tabOk [] (m := 0) rfl ?_
              | refine ev_load rfl rfl tabOk rfl rfl (by assumption) ?_
              | refine ev_loadB rfl rfl tabOk rfl rfl (by assumption) (by rfl) ?_
              | refine ev_loadAggB rfl rfl tabOk rfl rfl (by assumption) (by rfl) ?_
              | refine ev_arith rfl rfl rfl rfl rfl (by simp only [lowK, hiK]; omega) ?_
              | refine ev_rem rfl rfl rfl rfl (by omega) (by omega) ?_
              | refine ev_quo rfl rfl rfl rfl (by omega) (by omega) (by simp only [hiK]; omega) ?_
              | refine ev_index rfl rfl tabOk rfl rfl rfl (by omega) (by omega) ?_
              | refine ev_indexA rfl rfl tabOk rfl rfl rfl (by omega) (by omega) rfl ?_
              | refine ev_convB rfl rfl tabOk rfl rfl rfl rfl ?_
              | refine ev_conv rfl rfl tabOk rfl rfl rfl (by simp only [lowK, hiK]; omega) ?_)
            by_cases hMs : M ≤ s.length
            · rw [eN_yes hMs] at hc2 ⊢
              rw [show decide ((M : Int) < 0) = false from decide_eq_false (by omega)]
              repeat (first
                | refine stepF_ok tabOk [] (m := 400) rfl ?_
                | refine stepF_ok tabOk [] (m := 16) rfl ?_
                | refine stepF_ok tabOk [] (m := 3) rfl ?_
                | refine stepF_ok tabOk [] (m := 0) rfl ?_
                | refine ev_load rfl rfl tabOk rfl rfl (by assumption) ?_
                | refine ev_loadB rfl rfl tabOk rfl rfl (by assumption) (by rfl) ?_
                | refine ev_loadAggB rfl rfl tabOk rfl rfl (by assumption) (by rfl) ?_
                | refine ev_arith rfl rfl rfl rfl rfl (by simp only [lowK, hiK]; omega) ?_
                | refine ev_rem rfl rfl rfl rfl (by omega) (by omega) ?_
                | refine ev_quo rfl rfl rfl rfl (by omega) (by omega) (by simp only [hiK]; omega) ?_
                | refine ev_index rfl rfl tabOk rfl rfl rfl (by omega) (by omega) ?_
                | refine ev_indexA rfl rfl tabOk rfl rfl rfl (by omega) (by omega) rfl ?_
                | refine ev_convB rfl rfl tabOk rfl rfl rfl rfl ?_
                | refine ev_conv rfl rfl tabOk rfl rfl rfl (by simp only [lowK, hiK]; omega) ?_)
              refine ev_indexAddr (len := s.length + 1) (i := x) rfl rfl tabOk rfl rfl rfl (by omega) (by omega) ?_
              repeat (first
                | refine stepF_ok tabOk [] (m := 400) rfl ?_
                | refine stepF_ok tabOk [] (m := 16) rfl ?_
                | refine stepF_ok tabOk [] (m := 3) rfl ?_
                | refine stepF_ok tabOk [] (m := 0) rfl ?_
                | refine ev_load rfl rfl tabOk rfl rfl (by assumption) ?_
                | refine ev_loadB rfl rfl tabOk rfl rfl (by assumption) (by rfl) ?_
                | refine ev_loadAggB rfl rfl tabOk rfl rfl (by assumption) (by rfl) ?_
                | refine ev_arith rfl rfl rfl rfl rfl (by simp only [lowK, hiK]; omega) ?_
                | refine ev_rem rfl rfl rfl rfl (by omega) (by omega) ?_
                | refine ev_quo rfl rfl rfl rfl (by omega) (by omega) (by simp only [hiK]; omega) ?_
                | refine ev_index rfl rfl tabOk rfl rfl rfl (by omega) (by omega) ?_
                | refine ev_indexA rfl rfl tabOk rfl rfl rfl (by omega) (by omega) rfl ?_
                | refine ev_convB rfl rfl tabOk rfl rfl rfl rfl ?_
                | refine ev_conv rfl rfl tabOk rfl rfl rfl (by simp only [lowK, hiK]; omega) ?_)
              refine ev_condD rfl (fun h4 => ?_) (fun h4 => ?_)
              · have h4 : F + 1 < M := by omega
                repeat (first
                  | refine stepF_ok tabOk [] (m := 400) rfl ?_
                  | refine stepF_ok tabOk [] (m := 16) rfl ?_
                  | refine stepF_ok tabOk [] (m := 3) rfl ?_
                  | refine stepF_ok tabOk [] (m := 0) rfl ?_
                  | refine ev_load rfl rfl tabOk rfl rfl (by assumption) ?_
                  | refine ev_loadB rfl rfl tabOk rfl rfl (by assumption) (by rfl) ?_
                  | refine ev_loadAggB rfl rfl tabOk rfl rfl (by assumption) (by rfl) ?_
                  | refine ev_arith rfl rfl rfl rfl rfl (by simp only [lowK, hiK]; omega) ?_
                  | refine ev_rem rfl rfl rfl rfl (by omega) (by omega) ?_
                  | refine ev_quo rfl rfl rfl rfl (by omega) (by omega) (by simp only [hiK]; omega) ?_
                  | refine ev_index rfl rfl tabOk rfl rfl rfl (by omega) (by omega) ?_
                  | refine ev_indexA rfl rfl tabOk rfl rfl rfl (by omega) (by omega) rfl ?_
                  | refine ev_convB rfl rfl tabOk rfl rfl rfl rfl ?_
                  | refine ev_conv rfl rfl tabOk rfl rfl rfl (by simp only [lowK, hiK]; omega) ?_)
                refine ev_indexAddr (len := s.length + 1) (i := x) rfl rfl tabOk rfl rfl rfl (by omega) (by omega) ?_
                have hT2 := hT.put hxs ((F : Int) + 1) (by rw [hmy, show min M (F + 1) = F + 1 by omega, eN_yes (by omega)]; rfl)
                obtain ⟨cs, hb5, g1, g2, g3⟩ := hR
                have hput := Rw.put (j := x) (x := (F : Int) + 1) g1 g2 g3 (by omega)
                rw [show 0 + (x : Int).toNat * 1 = x by omega]
                refine ev_store tabOk rfl rfl rfl rfl rfl rfl hb5 (by rw [Nat.blt_eq]; omega) (fun w8 hb8 hf8 => ?_)
                have hR8 : Rw w8 g cap _ := ⟨_, hb8, hput⟩
                have hf08 : Fr no w w8 := old hf (by omega) hf8
                have hB8 := hB.fr hf8 (fun e => by have : p = g := e; omega)
                clear hb5 g1 g2 g3 hput hb8 hf8 hB hy hf keep hc1 hc2
                repeat (first
                  | refine stepF_ok tabOk [] (m := 400) rfl ?_
                  | refine stepF_ok tabOk [] (m := 16) rfl ?_
                  | refine stepF_ok tabOk [] (m := 3) rfl ?_
                  | refine stepF_ok tabOk [] (m := 0) rfl ?_
                  | refine ev_load rfl rfl tabOk rfl rfl (by assumption) ?_
                  | refine ev_loadB rfl rfl tabOk rfl rfl (by assumption) (by rfl) ?_
                  | refine ev_loadAggB rfl rfl tabOk rfl rfl (by assumption) (by rfl) ?_
                  | refine ev_arith rfl rfl rfl rfl rfl (by simp only [lowK, hiK]; omega) ?_
                  | refine ev_rem rfl rfl rfl rfl (by omega) (by omega) ?_
                  | refine ev_quo rfl rfl rfl rfl (by omega) (by omega) (by simp only [hiK]; omega) ?_
                  | refine ev_index rfl rfl tabOk rfl rfl rfl (by omega) (by omega) ?_
                  | refine ev_indexA rfl rfl tabOk rfl rfl rfl (by omega) (by omega) rfl ?_
                  | refine ev_convB rfl rfl tabOk rfl rfl rfl rfl ?_
                  | refine ev_conv rfl rfl tabOk rfl rfl rfl (by simp only [lowK, hiK]; omega) ?_)
                exact ev_next (k + 1) (by omega) ⟨by omega, ⟨_, hR8, hT2⟩, hf08, hB8⟩ ⟨rfl, rfl, rfl, rfl, rfl, trivial⟩
              · have h4 : ¬ F + 1 < M := by omega
                repeat (first
                  | refine stepF_ok tabOk [] (m := 400) rfl ?_
                  | refine stepF_ok tabOk [] (m := 16) rfl ?_
                  | refine stepF_ok tabOk [] (m := 3) rfl ?_
                  | refine stepF_ok tabOk [] (m := 0) rfl ?_
                  | refine ev_load rfl rfl tabOk rfl rfl (by assumption) ?_
                  | refine ev_loadB rfl rfl tabOk rfl rfl (by assumption) (by rfl) ?_
                  | refine ev_loadAggB rfl rfl tabOk rfl rfl (by assumption) (by rfl) ?_
                  | refine ev_arith rfl rfl rfl rfl rfl (by simp only [lowK, hiK]; omega) ?_
                  | refine ev_rem rfl rfl rfl rfl (by omega) (by omega) ?_
                  | refine ev_quo rfl rfl rfl rfl (by omega) (by omega) (by simp only [hiK]; omega) ?_
                  | refine ev_index rfl rfl tabOk rfl rfl rfl (by omega) (by omega) ?_
                  | refine ev_indexA rfl rfl tabOk rfl rfl rfl (by omega) (by omega) rfl ?_
                  | refine ev_convB rfl rfl tabOk rfl rfl rfl rfl ?_
                  | refine ev_conv rfl rfl tabOk rfl rfl rfl (by simp only [lowK, hiK]; omega) ?_)
                exact ev_next (k + 1) (by omega) (keep (by omega)) ⟨rfl, rfl, rfl, rfl, rfl, trivial⟩
            · rw [eN_no hMs] at hc2 ⊢
              repeat (first
                | refine stepF_ok tabOk [] (m := 400) rfl ?_
                | refine stepF_ok tabOk [] (m := 16) rfl ?_
                | refine stepF_ok tabOk [] (m := 3) rfl ?_
                | refine stepF_ok tabOk [] (m := 0) rfl ?_
                | refine ev_load rfl rfl tabOk rfl rfl (by assumption) ?_
                | refine ev_loadB rfl rfl tabOk rfl rfl (by assumption) (by rfl) ?_
                | refine ev_loadAggB rfl rfl tabOk rfl rfl (by assumption) (by rfl) ?_
                | refine ev_arith rfl rfl rfl rfl rfl (by simp only [lowK, hiK]; omega) ?_
                | refine ev_rem rfl rfl rfl rfl (by omega) (by omega) ?_
                | refine ev_quo rfl rfl rfl rfl (by omega) (by omega) (by simp only [hiK]; omega) ?_
                | refine ev_index rfl rfl tabOk rfl rfl rfl (by omega) (by omega) ?_
                | refine ev_indexA rfl rfl tabOk rfl rfl rfl (by omega) (by omega) rfl ?_
                | refine ev_convB rfl rfl tabOk rfl rfl rfl rfl ?_
                | refine ev_conv rfl rfl tabOk rfl rfl rfl (by simp only [lowK, hiK]; omega) ?_)
              refine ev_indexAddr (len := s.length + 1) (i := x) rfl rfl tabOk rfl rfl rfl (by omega) (by omega) ?_
              have hT2 := hT.put hxs ((F : Int) + 1) (by rw [hmy, show min M (F + 1) = F + 1 by omega, eN_yes (by omega)]; rfl)
              obtain ⟨cs, hb5, g1, g2, g3⟩ := hR
              have hput := Rw.put (j := x) (x := (F : Int) + 1) g1 g2 g3 (by omega)
              rw [show 0 + (x : Int).toNat * 1 = x by omega]
              refine ev_store tabOk rfl rfl rfl rfl rfl rfl hb5 (by rw [Nat.blt_eq]; omega) (fun w8 hb8 hf8 => ?_)
              have hR8 : Rw w8 g cap _ := ⟨_, hb8, hput⟩
              have hf08 : Fr no w w8 := old hf (by omega) hf8
              have hB8 := hB.fr hf8 (fun e => by have : p = g := e; omega)
              clear hb5 g1 g2 g3 hput hb8 hf8 hB hy hf keep hc1 hc2
              repeat (first
                | refine stepF_ok tabOk [] (m := 400) rfl ?_
                | refine stepF_ok tabOk [] (m := 16) rfl ?_
                | refine stepF_ok tabOk [] (m := 3) rfl ?_
                | refine stepF_ok tabOk [] (m := 0) rfl ?_
                | refine ev_load rfl rfl tabOk rfl rfl (by assumption) ?_
                | refine ev_loadB rfl rfl tabOk rfl rfl (by assumption) (by rfl) ?_
                | refine ev_loadAggB rfl rfl tabOk rfl rfl (by assumption) (by rfl) ?_
                | refine ev_arith rfl rfl rfl rfl rfl (by simp only [lowK, hiK]; omega) ?_
                | refine ev_rem rfl rfl rfl rfl (by omega) (by omega) ?_
                | refine ev_quo rfl rfl rfl rfl (by omega) (by omega) (by simp only [hiK]; omega) ?_
                | refine ev_index rfl rfl tabOk rfl rfl rfl (by omega) (by omega) ?_
                | refine ev_indexA rfl rfl tabOk rfl rfl rfl (by omega) (by omega) rfl ?_
                | refine ev_convB rfl rfl tabOk rfl rfl rfl rfl ?_
                | refine ev_conv rfl rfl tabOk rfl rfl rfl (by simp only [lowK, hiK]; omega) ?_)
              exact ev_next (k + 1) (by omega) ⟨by omega, ⟨_, hR8, hT2⟩, hf08, hB8⟩ ⟨rfl, rfl, rfl, rfl, rfl, trivial⟩
          · rw [eN_no hFs] at hc1 ⊢
            repeat (first
              | refine stepF_ok tabOk [] (m := 400) rfl ?_
              | refine stepF_ok tabOk [] (m := 16) rfl ?_
              | refine stepF_ok tabOk [] (m := 3) rfl ?_
              | refine stepF_ok tabOk [] (m := 0) rfl ?_
              | refine ev_load rfl rfl tabOk rfl rfl (by assumption) ?_
              | refine ev_loadB rfl rfl tabOk rfl rfl (by assumption) (by rfl) ?_
              | refine ev_loadAggB rfl rfl tabOk rfl rfl (by assumption) (by rfl) ?_
              | refine ev_arith rfl rfl rfl rfl rfl (by simp only [lowK, hiK]; omega) ?_
              | refine ev_rem rfl rfl rfl rfl (by omega) (by omega) ?_
              | refine ev_quo rfl rfl rfl rfl (by omega) (by omega) (by simp only [hiK]; omega) ?_
              | refine ev_index rfl rfl tabOk rfl rfl rfl (by omega) (by omega) ?_
              | refine ev_indexA rfl rfl tabOk rfl rfl rfl (by omega) (by omega) rfl ?_
              | refine ev_convB rfl rfl tabOk rfl rfl rfl rfl ?_
              | refine ev_conv rfl rfl tabOk rfl rfl rfl (by simp only [lowK, hiK]; omega) ?_)
            exact ev_next (k + 1) (by omega) (keep (by omega)) ⟨rfl, rfl, rfl, rfl, rfl, trivial⟩
        · have hT2 : Dk v s x (k + 1) r := hT.no fun h => h3 ⟨fun e => by have := t_pos hok h.1 hk1; rw [e] at this; exact Nat.lt_irrefl 0 this, h.2⟩
          repeat (first
            | refine stepF_ok tabOk [] (m := 400) rfl ?_
            | refine stepF_ok tabOk [] (m := 16) rfl ?_
            | refine stepF_ok tabOk [] (m := 3) rfl ?_
            | refine stepF_ok tabOk [] (m := 0) rfl ?_
            | refine ev_load rfl rfl tabOk rfl rfl (by assumption) ?_
            | refine ev_loadB rfl rfl tabOk rfl rfl (by assumption) (by rfl) ?_
            | refine ev_loadAggB rfl rfl tabOk rfl rfl (by assumption) (by rfl) ?_
            | refine ev_arith rfl rfl rfl rfl rfl (by simp only [lowK, hiK]; omega) ?_
            | refine ev_rem rfl rfl rfl rfl (by omega) (by omega) ?_
            | refine ev_quo rfl rfl rfl rfl (by omega) (by omega) (by simp only [hiK]; omega) ?_
            | refine ev_index rfl rfl tabOk rfl rfl rfl (by omega) (by omega) ?_
            | refine ev_indexA rfl rfl tabOk rfl rfl rfl (by omega) (by omega) rfl ?_
            | refine ev_convB rfl rfl tabOk rfl rfl rfl rfl ?_
            | refine ev_conv rfl rfl tabOk rfl rfl rfl (by simp only [lowK, hiK]; omega) ?_)
          exact ev_next (k + 1) (by omega) ⟨by omega, ⟨_, hR, hT2⟩, hf, hB⟩ ⟨rfl, rfl, rfl, rfl, rfl, trivial⟩
      · have hkn : k = v.texts.length := by omega
        subst hkn
        repeat (first
          | refine stepF_ok tabOk [] (m := 400) rfl ?_
          | refine stepF_ok tabOk [] (m := 16) rfl ?_
          | refine stepF_ok tabOk [] (m := 3) rfl ?_
          | refine stepF_ok tabOk [] (m := 0) rfl ?_
          | refine ev_load rfl rfl tabOk rfl rfl (by assumption) ?_
          | refine ev_loadB rfl rfl tabOk rfl rfl (by assumption) (by rfl) ?_
          | refine ev_loadAggB rfl rfl tabOk rfl rfl (by assumption) (by rfl) ?_
          | refine ev_arith rfl rfl rfl rfl rfl (by simp only [lowK, hiK]; omega) ?_
          | refine ev_rem rfl rfl rfl rfl (by omega) (by omega) ?_
          | refine ev_quo rfl rfl rfl rfl (by omega) (by omega) (by simp only [hiK]; omega) ?_
          | refine ev_index rfl rfl tabOk rfl rfl rfl (by omega) (by omega) ?_
          | refine ev_indexA rfl rfl tabOk rfl rfl rfl (by omega) (by omega) rfl ?_
          | refine ev_convB rfl rfl tabOk rfl rfl rfl rfl ?_
          | refine ev_conv rfl rfl tabOk rfl rfl rfl (by simp only [lowK, hiK]; omega) ?_)
        exact ev_next x (by omega) ⟨by omega, ⟨r, hR, hT.done hok hxs⟩, hf, hB⟩ ⟨rfl, rfl, rfl, rfl, trivial⟩
    · have hq0 : q = 0 := by omega
      subst hq0
      have hg3 := hR.lt
      clear hlt hq
      repeat (first
        | refine stepF_ok tabOk [] (m := 400) rfl ?_
        | refine stepF_ok tabOk [] (m := 16) rfl ?_
        | refine stepF_ok tabOk [] (m := 3) rfl ?_
        | refine stepF_ok tabOk [] (m := 0) rfl ?_
        | refine ev_load rfl rfl tabOk rfl rfl (by assumption) ?_
        | refine ev_loadB rfl rfl tabOk rfl rfl (by assumption) (by rfl) ?_
        | refine ev_loadAggB rfl rfl tabOk rfl rfl (by assumption) (by rfl) ?_
        | refine ev_arith rfl rfl rfl rfl rfl (by simp only [lowK, hiK]; omega) ?_
        | refine ev_rem rfl rfl rfl rfl (by omega) (by omega) ?_
        | refine ev_quo rfl rfl rfl rfl (by omega) (by omega) (by simp only [hiK]; omega) ?_
        | refine ev_index rfl rfl tabOk rfl rfl rfl (by omega) (by omega) ?_
        | refine ev_indexA rfl rfl tabOk rfl rfl rfl (by omega) (by omega) rfl ?_
        | refine ev_convB rfl rfl tabOk rfl rfl rfl rfl ?_
        | refine ev_conv rfl rfl tabOk rfl rfl rfl (by simp only [lowK, hiK]; omega) ?_)
      refine ev_buildSlice tabOk rfl rfl rfl inf3 rfl rfl rfl (by simp) rfl (fun q6 w6 hq6 hb6 hf6 => ?_)
      have ho6 : OI w6 (.slice (some ⟨q6, 0, none⟩) 0 0) [] := own_of_blk (m := 0) (sz := 1) hb6 rfl (by omega)
      have hR6 := hR.fr0 hf6
      have hB6 := hB.fr0 hf6
      have hf06 := hf.tr hf6
      have hg6 : ∀ x, (Value.slice (some ⟨q6, 0, none⟩) 0 0).ownBlock = some x → g < x := fun x h => by simp only [Value.ownBlock, Option.some.injEq] at h; omega
      clear hR hB hf hf6 hb6
      repeat (first
        | refine stepF_ok tabOk [] (m := 400) rfl ?_
        | refine stepF_ok tabOk [] (m := 16) rfl ?_
        | refine stepF_ok tabOk [] (m := 3) rfl ?_
        | refine stepF_ok tabOk [] (m := 0) rfl ?_
        | refine ev_load rfl rfl tabOk rfl rfl (by assumption) ?_
        | refine ev_loadB rfl rfl tabOk rfl rfl (by assumption) (by rfl) ?_
        | refine ev_loadAggB rfl rfl tabOk rfl rfl (by assumption) (by rfl) ?_
        | refine ev_arith rfl rfl rfl rfl rfl (by simp only [lowK, hiK]; omega) ?_
        | refine ev_rem rfl rfl rfl rfl (by omega) (by omega) ?_
        | refine ev_quo rfl rfl rfl rfl (by omega) (by omega) (by simp only [hiK]; omega) ?_
        | refine ev_index rfl rfl tabOk rfl rfl rfl (by omega) (by omega) ?_
        | refine ev_indexA rfl rfl tabOk rfl rfl rfl (by omega) (by omega) rfl ?_
        | refine ev_convB rfl rfl tabOk rfl rfl rfl rfl ?_
        | refine ev_conv rfl rfl tabOk rfl rfl rfl (by simp only [lowK, hiK]; omega) ?_)
      refine ev_loop (α := List Int × Value × Nat) (fun y => [(1, sv s), (2, .pointer (some ⟨p, 0, none⟩)), (9, .slice (some ⟨g, 0, none⟩) (s.length + 1) cap), (18, y.2.1), (19, i64 y.2.2)])
        (fun y w' => y.2.2 ≤ s.length ∧ v.fp s y.2.2 ≤ s.length ∧ v.few s [] 0 = v.few s y.1 y.2.2 ∧ y.1.length ≤ y.2.2 ∧ OI w' y.2.1 y.1 ∧ (∀ g', y.2.1.ownBlock = some g' → g < g') ∧ Rw w' g cap r ∧ Fr no w w' ∧ Blk w' p [.slice A v.texts.length c, .slice B v.merges.length d] 28) (fun y => s.length - y.2.2) ([], .slice (some ⟨q6, 0, none⟩) 0 0, 0) ⟨rfl, rfl, rfl, rfl, rfl, trivial⟩ ⟨Nat.zero_le _, h2, rfl, Nat.zero_le _, ho6, hg6, hR6, hf06, hB6⟩ ?_
      clear ho6 hg6 hR6 hf06 hB6
      rintro ⟨out, a, q⟩ w4 ⟨hq, hfq, hfew, hol, hO, hga, hR, hf, hB⟩
      simp only at hq hfq hfew hol hO hga
      repeat (first
        | refine stepF_ok tabOk [] (m := 400) rfl ?_
        | refine stepF_ok tabOk [] (m := 16) rfl ?_
        | refine stepF_ok tabOk [] (m := 3) rfl ?_
        | refine stepF_ok tabOk [] (m := 0) rfl ?_
        | refine ev_load rfl rfl tabOk rfl rfl (by assumption) ?_
        | refine ev_loadB rfl rfl tabOk rfl rfl (by assumption) (by rfl) ?_
        | refine ev_loadAggB rfl rfl tabOk rfl rfl (by assumption) (by rfl) ?_
        | refine ev_arith rfl rfl rfl rfl rfl (by simp only [lowK, hiK]; omega) ?_
        | refine ev_rem rfl rfl rfl rfl (by omega) (by omega) ?_
        | refine ev_quo rfl rfl rfl rfl (by omega) (by omega) (by simp only [hiK]; omega) ?_
        | refine ev_index rfl rfl tabOk rfl rfl rfl (by omega) (by omega) ?_
        | refine ev_indexA rfl rfl tabOk rfl rfl rfl (by omega) (by omega) rfl ?_
        | refine ev_convB rfl rfl tabOk rfl rfl rfl rfl ?_
        | refine ev_conv rfl rfl tabOk rfl rfl rfl (by simp only [lowK, hiK]; omega) ?_)
      refine ev_condD rfl (fun hlt => ?_) (fun hlt => ?_)
      · have hlt : q < s.length := by have : (q : Int) < s.length := hlt; omega
        obtain ⟨n1, n2, n3⟩ := nx_spec hok hlt hfq
        have hfp := fp_pos hok hlt
        repeat (first
          | refine stepF_ok tabOk [] (m := 400) rfl ?_
          | refine stepF_ok tabOk [] (m := 16) rfl ?_
          | refine stepF_ok tabOk [] (m := 3) rfl ?_
          | refine stepF_ok tabOk [] (m := 0) rfl ?_
          | refine ev_load rfl rfl tabOk rfl rfl (by assumption) ?_
          | refine ev_loadB rfl rfl tabOk rfl rfl (by assumption) (by rfl) ?_
          | refine ev_loadAggB rfl rfl tabOk rfl rfl (by assumption) (by rfl) ?_
          | refine ev_arith rfl rfl rfl rfl rfl (by simp only [lowK, hiK]; omega) ?_
          | refine ev_rem rfl rfl rfl rfl (by omega) (by omega) ?_
          | refine ev_quo rfl rfl rfl rfl (by omega) (by omega) (by simp only [hiK]; omega) ?_
          | refine ev_index rfl rfl tabOk rfl rfl rfl (by omega) (by omega) ?_
          | refine ev_indexA rfl rfl tabOk rfl rfl rfl (by omega) (by omega) rfl ?_
          | refine ev_convB rfl rfl tabOk rfl rfl rfl rfl ?_
          | refine ev_conv rfl rfl tabOk rfl rfl rfl (by simp only [lowK, hiK]; omega) ?_)
        refine ev_loop (α := Nat) (fun k => [(1, sv s), (2, .pointer (some ⟨p, 0, none⟩)), (9, .slice (some ⟨g, 0, none⟩) (s.length + 1) cap), (18, a), (19, i64 q), (20, i64 k)])
          (fun k w' => k ≤ v.texts.length ∧ (∀ j, j < k → ¬ (v.sd s q j ∧ v.fp s (q + (v.t j).length) + 1 = v.fp s q)) ∧ OI w' a out ∧ Rw w' g cap r ∧ Fr no w w' ∧ Blk w' p [.slice A v.texts.length c, .slice B v.merges.length d] 28) (fun k => v.texts.length - k) 1 ⟨rfl, rfl, rfl, rfl, rfl, rfl, trivial⟩ ⟨by omega, fun j h h' => by
            have := h'.1.1; omega, hO, hR, hf, hB⟩ ?_
        clear hO hR hf hB
        rintro k w5 ⟨hk, hno, hO, hR, hf, hB⟩
        repeat (first
          | refine stepF_ok tabOk [] (m := 400) rfl ?_
          | refine stepF_ok tabOk [] (m := 16) rfl ?_
          | refine stepF_ok tabOk [] (m := 3) rfl ?_
          | refine stepF_ok tabOk [] (m := 0) rfl ?_
          | refine ev_load rfl rfl tabOk rfl rfl (by assumption) ?_
          | refine ev_loadB rfl rfl tabOk rfl rfl (by assumption) (by rfl) ?_
          | refine ev_loadAggB rfl rfl tabOk rfl rfl (by assumption) (by rfl) ?_
          | refine ev_arith rfl rfl rfl rfl rfl (by simp only [lowK, hiK]; omega) ?_
          | refine ev_rem rfl rfl rfl rfl (by omega) (by omega) ?_
          | refine ev_quo rfl rfl rfl rfl (by omega) (by omega) (by simp only [hiK]; omega) ?_
          | refine ev_index rfl rfl tabOk rfl rfl rfl (by omega) (by omega) ?_
          | refine ev_indexA rfl rfl tabOk rfl rfl rfl (by omega) (by omega) rfl ?_
          | refine ev_convB rfl rfl tabOk rfl rfl rfl rfl ?_
          | refine ev_conv rfl rfl tabOk rfl rfl rfl (by simp only [lowK, hiK]; omega) ?_)
        refine ev_condD rfl (fun hk2 => ?_) (fun hk2 => ?_)
        · have hk1 : k < v.texts.length := by omega
          obtain ⟨gc, oc, e1, hx⟩ := strs_at (hV.fr0 hf).1 hk1
          subst e1
          have hx : w5.cell? ⟨gc, oc + (k : Int).toNat * 1, none⟩ = some (sv (v.t k)) := hx
          have hle1 := hS.len k
          have pre : ∀ w', Fr no w5 w' → CallsF Try.prog 40 [sv (v.t k), sv s, i64 q] w' fun u w'' => u = .bool (decide (v.t k ≠ [] ∧ v.t k <+: s.drop q)) ∧ Fr no w5 w'' := fun w' hw' => (refStands (v.t k) s q w' hq hs hle1).mono fun u w'' z => ⟨z.1, z.2 ▸ hw'⟩
          have fin : ∀ w', Fr no w5 w' → OI w' a out ∧ Rw w' g cap r ∧ Fr no w w' ∧ Blk w' p [.slice (some ⟨gc, oc, none⟩) v.texts.length c, .slice B v.merges.length d] 28 := fun w' hw => ⟨hO.fr0 hw, hR.fr0 hw, hf.tr hw, hB.fr0 hw⟩
          have nxt : ∀ w', Fr no w5 w' → ¬ (v.sd s q k ∧ v.fp s (q + (v.t k).length) + 1 = v.fp s q) → k + 1 ≤ v.texts.length ∧ (∀ j, j < k + 1 → ¬ (v.sd s q j ∧ v.fp s (q + (v.t j).length) + 1 = v.fp s q)) ∧ OI w' a out ∧ Rw w' g cap r ∧ Fr no w w' ∧ Blk w' p [.slice (some ⟨gc, oc, none⟩) v.texts.length c, .slice B v.merges.length d] 28 := fun w' hw hn => ⟨by omega, fun j hj => by
            by_cases e : j = k
            · subst e; exact hn
            · exact hno j (by omega), fin w' hw⟩
          by_cases h3 : v.t k ≠ [] ∧ v.t k <+: s.drop q
          · have hk0 : 0 < k := by
              rcases Nat.eq_zero_or_pos k with e | e
              · subst e; exact absurd (t_zero hok) h3.1
              · exact e
            have hsd : v.sd s q k := ⟨hk0, h3.2⟩
            have hle := sd_le hsd hq
            have hc1 : ∀ w', Fr no w5 w' → w'.cell? ⟨g, 0 + ((q : Int) + (v.t k).length).toNat * 1, none⟩ = some (i64 (eN s (v.fp s (q + (v.t k).length)))) := fun w' hw' => by
              have := (hR.fr0 hw').cell (j := q + (v.t k).length) (by rw [hT.1]; omega)
              rw [hT.2.1 _ (Nat.zero_le _) hle] at this
              exact this
            have hc2' : ∀ w', Fr no w5 w' → w'.cell? ⟨g, 0 + (q : Int).toNat * 1, none⟩ = some (i64 (v.fp s q)) := fun w' hw' => by
              have := (hR.fr0 hw').cell (j := q) (by rw [hT.1]; omega)
              rw [hT.2.1 _ (Nat.zero_le _) hq, eN_yes hfq] at this
              exact this
            have heq : decide (eN s (v.fp s (q + (v.t k).length)) = (v.fp s q : Int) - 1) = decide (v.fp s (q + (v.t k).length) + 1 = v.fp s q) := decide_eq_decide.2 (by
              by_cases h : v.fp s (q + (v.t k).length) ≤ s.length
              · rw [eN_yes h]; omega
              · rw [eN_no h]; omega)
            repeat (first
              | refine stepF_ok tabOk [] (m := 400) rfl ?_
              | refine stepF_ok tabOk [] (m := 16) rfl ?_
              | refine stepF_ok tabOk [] (m := 3) rfl ?_
              | refine stepF_ok tabOk [] (m := 0) rfl ?_
              | refine ev_load rfl rfl tabOk rfl rfl (by assumption) ?_
              | refine ev_loadB rfl rfl tabOk rfl rfl (by assumption) (by rfl) ?_
              | refine ev_loadAggB rfl rfl tabOk rfl rfl (by assumption) (by rfl) ?_
              | refine ev_arith rfl rfl rfl rfl rfl (by simp only [lowK, hiK]; omega) ?_
              | refine ev_rem rfl rfl rfl rfl (by omega) (by omega) ?_
              | refine ev_quo rfl rfl rfl rfl (by omega) (by omega) (by simp only [hiK]; omega) ?_
              | refine ev_index rfl rfl tabOk rfl rfl rfl (by omega) (by omega) ?_
              | refine ev_indexA rfl rfl tabOk rfl rfl rfl (by omega) (by omega) rfl ?_
              | refine ev_convB rfl rfl tabOk rfl rfl rfl rfl ?_
              | refine ev_conv rfl rfl tabOk rfl rfl rfl (by simp only [lowK, hiK]; omega) ?_)
            refine ev_draw mixed (by kernel_rfl) ?_
            repeat (first
              | refine stepQF_ok tabOk (m := 400) rfl ?_
              | refine stepQF_ok tabOk (m := 16) rfl ?_
              | refine stepQF_ok tabOk (m := 3) rfl ?_
              | refine stepQF_ok tabOk (m := 0) rfl ?_
              | refine q_load rfl rfl tabOk rfl rfl (fun _ hf => cell_fr (by assumption) hf id) ?_
              | refine q_loadB rfl rfl tabOk rfl rfl (by assumption) (by rfl) ?_
              | refine q_loadAggB rfl rfl tabOk rfl rfl (by assumption) (by rfl) ?_
              | refine q_arith rfl rfl rfl rfl rfl (by simp only [lowK, hiK]; omega) ?_
              | refine q_rem rfl rfl rfl rfl (by omega) (by omega) ?_
              | refine q_quo rfl rfl rfl rfl (by omega) (by omega) (by simp only [hiK]; omega) ?_
              | refine q_index rfl rfl tabOk rfl rfl rfl (by omega) (by omega) ?_
              | refine q_convB rfl rfl tabOk rfl rfl rfl rfl ?_
              | refine q_conv rfl rfl tabOk rfl rfl rfl (by simp only [lowK, hiK]; omega) ?_)
            refine q_indexAddr (len := v.texts.length) (i := k) rfl rfl tabOk rfl rfl rfl (by omega) (by omega) ?_
            repeat (first
              | refine stepQF_ok tabOk (m := 400) rfl ?_
              | refine stepQF_ok tabOk (m := 16) rfl ?_
              | refine stepQF_ok tabOk (m := 3) rfl ?_
              | refine stepQF_ok tabOk (m := 0) rfl ?_
              | refine q_load rfl rfl tabOk rfl rfl (fun _ hf => cell_fr (by assumption) hf id) ?_
              | refine q_loadB rfl rfl tabOk rfl rfl (by assumption) (by rfl) ?_
              | refine q_loadAggB rfl rfl tabOk rfl rfl (by assumption) (by rfl) ?_
              | refine q_arith rfl rfl rfl rfl rfl (by simp only [lowK, hiK]; omega) ?_
              | refine q_rem rfl rfl rfl rfl (by omega) (by omega) ?_
              | refine q_quo rfl rfl rfl rfl (by omega) (by omega) (by simp only [hiK]; omega) ?_
              | refine q_index rfl rfl tabOk rfl rfl rfl (by omega) (by omega) ?_
              | refine q_convB rfl rfl tabOk rfl rfl rfl rfl ?_
              | refine q_conv rfl rfl tabOk rfl rfl rfl (by simp only [lowK, hiK]; omega) ?_)
            refine q_call rfl rfl rfl pre ?_
            rw [decide_eq_true h3]
            repeat (first
              | refine stepQF_ok tabOk (m := 400) rfl ?_
              | refine stepQF_ok tabOk (m := 16) rfl ?_
              | refine stepQF_ok tabOk (m := 3) rfl ?_
              | refine stepQF_ok tabOk (m := 0) rfl ?_
              | refine q_load rfl rfl tabOk rfl rfl (fun _ hf => cell_fr (by assumption) hf id) ?_
              | refine q_loadB rfl rfl tabOk rfl rfl (by assumption) (by rfl) ?_
              | refine q_loadAggB rfl rfl tabOk rfl rfl (by assumption) (by rfl) ?_
              | refine q_arith rfl rfl rfl rfl rfl (by simp only [lowK, hiK]; omega) ?_
              | refine q_rem rfl rfl rfl rfl (by omega) (by omega) ?_
              | refine q_quo rfl rfl rfl rfl (by omega) (by omega) (by simp only [hiK]; omega) ?_
              | refine q_index rfl rfl tabOk rfl rfl rfl (by omega) (by omega) ?_
              | refine q_convB rfl rfl tabOk rfl rfl rfl rfl ?_
              | refine q_conv rfl rfl tabOk rfl rfl rfl (by simp only [lowK, hiK]; omega) ?_)
            refine q_indexAddr (len := v.texts.length) (i := k) rfl rfl tabOk rfl rfl rfl (by omega) (by omega) ?_
            repeat (first
              | refine stepQF_ok tabOk (m := 400) rfl ?_
              | refine stepQF_ok tabOk (m := 16) rfl ?_
              | refine stepQF_ok tabOk (m := 3) rfl ?_
              | refine stepQF_ok tabOk (m := 0) rfl ?_
              | refine q_load rfl rfl tabOk rfl rfl (fun _ hf => cell_fr (by assumption) hf id) ?_
              | refine q_loadB rfl rfl tabOk rfl rfl (by assumption) (by rfl) ?_
              | refine q_loadAggB rfl rfl tabOk rfl rfl (by assumption) (by rfl) ?_
              | refine q_arith rfl rfl rfl rfl rfl (by simp only [lowK, hiK]; omega) ?_
              | refine q_rem rfl rfl rfl rfl (by omega) (by omega) ?_
              | refine q_quo rfl rfl rfl rfl (by omega) (by omega) (by simp only [hiK]; omega) ?_
              | refine q_index rfl rfl tabOk rfl rfl rfl (by omega) (by omega) ?_
              | refine q_convB rfl rfl tabOk rfl rfl rfl rfl ?_
              | refine q_conv rfl rfl tabOk rfl rfl rfl (by simp only [lowK, hiK]; omega) ?_)
            refine q_indexAddr (len := s.length + 1) (i := (q : Int) + (v.t k).length) rfl rfl tabOk rfl rfl rfl (by omega) (by omega) ?_
            refine q_load rfl rfl tabOk rfl rfl hc1 ?_
            repeat (first
              | refine stepQF_ok tabOk (m := 400) rfl ?_
              | refine stepQF_ok tabOk (m := 16) rfl ?_
              | refine stepQF_ok tabOk (m := 3) rfl ?_
              | refine stepQF_ok tabOk (m := 0) rfl ?_
              | refine q_load rfl rfl tabOk rfl rfl (fun _ hf => cell_fr (by assumption) hf id) ?_
              | refine q_loadB rfl rfl tabOk rfl rfl (by assumption) (by rfl) ?_
              | refine q_loadAggB rfl rfl tabOk rfl rfl (by assumption) (by rfl) ?_
              | refine q_arith rfl rfl rfl rfl rfl (by simp only [lowK, hiK]; omega) ?_
              | refine q_rem rfl rfl rfl rfl (by omega) (by omega) ?_
              | refine q_quo rfl rfl rfl rfl (by omega) (by omega) (by simp only [hiK]; omega) ?_
              | refine q_index rfl rfl tabOk rfl rfl rfl (by omega) (by omega) ?_
              | refine q_convB rfl rfl tabOk rfl rfl rfl rfl ?_
              | refine q_conv rfl rfl tabOk rfl rfl rfl (by simp only [lowK, hiK]; omega) ?_)
            refine q_indexAddr (len := s.length + 1) (i := q) rfl rfl tabOk rfl rfl rfl (by omega) (by omega) ?_
            refine q_load rfl rfl tabOk rfl rfl hc2' ?_
            repeat (first
              | refine stepQF_ok tabOk (m := 400) rfl ?_
              | refine stepQF_ok tabOk (m := 16) rfl ?_
              | refine stepQF_ok tabOk (m := 3) rfl ?_
              | refine stepQF_ok tabOk (m := 0) rfl ?_
              | refine q_load rfl rfl tabOk rfl rfl (fun _ hf => cell_fr (by assumption) hf id) ?_
              | refine q_loadB rfl rfl tabOk rfl rfl (by assumption) (by rfl) ?_
              | refine q_loadAggB rfl rfl tabOk rfl rfl (by assumption) (by rfl) ?_
              | refine q_arith rfl rfl rfl rfl rfl (by simp only [lowK, hiK]; omega) ?_
              | refine q_rem rfl rfl rfl rfl (by omega) (by omega) ?_
              | refine q_quo rfl rfl rfl rfl (by omega) (by omega) (by simp only [hiK]; omega) ?_
              | refine q_index rfl rfl tabOk rfl rfl rfl (by omega) (by omega) ?_
              | refine q_convB rfl rfl tabOk rfl rfl rfl rfl ?_
              | refine q_conv rfl rfl tabOk rfl rfl rfl (by simp only [lowK, hiK]; omega) ?_)
            refine q_end fun w6 hf6 => ?_
            obtain ⟨hO6, hR6, hf06, hB6⟩ := fin w6 hf6
            have nxt6 := nxt w6 hf6
            have hno' := hno
            clear hO hR hf hB hx hc1 hc2' pre fin nxt hno
            rw [heq]
            refine ev_condD rfl (fun h4 => ?_) (fun h4 => ?_)
            · have hnx : v.nx s q = k := nx_is hk1 hno' ⟨hsd, h4⟩
              rw [few_step hok hlt hfq, hnx] at hfew
              have hp0 := t_pos hok hk0 hk1
              repeat (first
                | refine stepF_ok tabOk [] (m := 400) rfl ?_
                | refine stepF_ok tabOk [] (m := 16) rfl ?_
                | refine stepF_ok tabOk [] (m := 3) rfl ?_
                | refine stepF_ok tabOk [] (m := 0) rfl ?_
                | refine ev_load rfl rfl tabOk rfl rfl (by assumption) ?_
                | refine ev_loadB rfl rfl tabOk rfl rfl (by assumption) (by rfl) ?_
                | refine ev_loadAggB rfl rfl tabOk rfl rfl (by assumption) (by rfl) ?_
                | refine ev_arith rfl rfl rfl rfl rfl (by simp only [lowK, hiK]; omega) ?_
                | refine ev_rem rfl rfl rfl rfl (by omega) (by omega) ?_
                | refine ev_quo rfl rfl rfl rfl (by omega) (by omega) (by simp only [hiK]; omega) ?_
                | refine ev_index rfl rfl tabOk rfl rfl rfl (by omega) (by omega) ?_
                | refine ev_indexA rfl rfl tabOk rfl rfl rfl (by omega) (by omega) rfl ?_
                | refine ev_convB rfl rfl tabOk rfl rfl rfl rfl ?_
                | refine ev_conv rfl rfl tabOk rfl rfl rfl (by simp only [lowK, hiK]; omega) ?_)
              refine ev_append1 tabOk rfl rfl (fun _ => rfl) rfl rfl inf3 rfl (by omega) (fun _ => rfl) rfl rfl (by simp [Value.cells]) (by simp [flatV, Value.cells, Value.oneCell']) rfl hO6 (by omega) (fun a2 w7 q7 hO7 hf7 hn7 => ?_)
              have hO7 : OI w7 a2 (out ++ [(k : Int)]) := OI.app (m := [(k : Int)]) hO7 rfl
              have hf07 : Fr no w w7 := hf06.trans hf7 (fun b hb h => by have := hga _ h; omega)
              have hB7 := hB6.fr hf7 (fun h => by have := hga _ h; omega)
              have hR7 := hR6.fr hf7 (fun h => by have := hga _ h; omega)
              have hg7 : ∀ g', a2.ownBlock = some g' → g < g' := fun g' h => by
                rcases hn7 g' h with h | h
                · exact hga g' h
                · have := hR6.lt; omega
              clear hO6 hf7 hB6 hR6 hga hn7 nxt6
              obtain ⟨gc', oc', e1, hx⟩ := strs_at (hV.fr0 hf07).1 hk1
              cases e1
              have hx : w7.cell? ⟨gc, oc + (k : Int).toNat * 1, none⟩ = some (sv (v.t k)) := hx
              repeat (first
                | refine stepF_ok tabOk [] (m := 400) rfl ?_
                | refine stepF_ok tabOk [] (m := 16) rfl ?_
                | refine stepF_ok tabOk [] (m := 3) rfl ?_
                | refine stepF_ok tabOk [] (m := 0) rfl ?_
                | refine ev_load rfl rfl tabOk rfl rfl (by assumption) ?_
                | refine ev_loadB rfl rfl tabOk rfl rfl (by assumption) (by rfl) ?_
                | refine ev_loadAggB rfl rfl tabOk rfl rfl (by assumption) (by rfl) ?_
                | refine ev_arith rfl rfl rfl rfl rfl (by simp only [lowK, hiK]; omega) ?_
                | refine ev_rem rfl rfl rfl rfl (by omega) (by omega) ?_
                | refine ev_quo rfl rfl rfl rfl (by omega) (by omega) (by simp only [hiK]; omega) ?_
                | refine ev_index rfl rfl tabOk rfl rfl rfl (by omega) (by omega) ?_
                | refine ev_indexA rfl rfl tabOk rfl rfl rfl (by omega) (by omega) rfl ?_
                | refine ev_convB rfl rfl tabOk rfl rfl rfl rfl ?_
                | refine ev_conv rfl rfl tabOk rfl rfl rfl (by simp only [lowK, hiK]; omega) ?_)
              refine ev_indexAddr (len := v.texts.length) (i := k) rfl rfl tabOk rfl rfl rfl (by omega) (by omega) ?_
              repeat (first
                | refine stepF_ok tabOk [] (m := 400) rfl ?_
                | refine stepF_ok tabOk [] (m := 16) rfl ?_
                | refine stepF_ok tabOk [] (m := 3) rfl ?_
                | refine stepF_ok tabOk [] (m := 0) rfl ?_
                | refine ev_load rfl rfl tabOk rfl rfl (by assumption) ?_
                | refine ev_loadB rfl rfl tabOk rfl rfl (by assumption) (by rfl) ?_
                | refine ev_loadAggB rfl rfl tabOk rfl rfl (by assumption) (by rfl) ?_
                | refine ev_arith rfl rfl rfl rfl rfl (by simp only [lowK, hiK]; omega) ?_
                | refine ev_rem rfl rfl rfl rfl (by omega) (by omega) ?_
                | refine ev_quo rfl rfl rfl rfl (by omega) (by omega) (by simp only [hiK]; omega) ?_
                | refine ev_index rfl rfl tabOk rfl rfl rfl (by omega) (by omega) ?_
                | refine ev_indexA rfl rfl tabOk rfl rfl rfl (by omega) (by omega) rfl ?_
                | refine ev_convB rfl rfl tabOk rfl rfl rfl rfl ?_
                | refine ev_conv rfl rfl tabOk rfl rfl rfl (by simp only [lowK, hiK]; omega) ?_)
              exact ev_next (out ++ [(k : Int)], a2, q + (v.t k).length) (by simp only; omega) ⟨by simp only; omega, by simp only; omega, hfew, by simp only [List.length_append]; show out.length + 1 ≤ _; omega, hO7, hg7, hR7, hf07, hB7⟩ ⟨rfl, rfl, rfl, rfl, rfl, trivial⟩
            · have hz := nxt6 fun h => h4 h.2
              repeat (first
                | refine stepF_ok tabOk [] (m := 400) rfl ?_
                | refine stepF_ok tabOk [] (m := 16) rfl ?_
                | refine stepF_ok tabOk [] (m := 3) rfl ?_
                | refine stepF_ok tabOk [] (m := 0) rfl ?_
                | refine ev_load rfl rfl tabOk rfl rfl (by assumption) ?_
                | refine ev_loadB rfl rfl tabOk rfl rfl (by assumption) (by rfl) ?_
                | refine ev_loadAggB rfl rfl tabOk rfl rfl (by assumption) (by rfl) ?_
                | refine ev_arith rfl rfl rfl rfl rfl (by simp only [lowK, hiK]; omega) ?_
                | refine ev_rem rfl rfl rfl rfl (by omega) (by omega) ?_
                | refine ev_quo rfl rfl rfl rfl (by omega) (by omega) (by simp only [hiK]; omega) ?_
                | refine ev_index rfl rfl tabOk rfl rfl rfl (by omega) (by omega) ?_
                | refine ev_indexA rfl rfl tabOk rfl rfl rfl (by omega) (by omega) rfl ?_
                | refine ev_convB rfl rfl tabOk rfl rfl rfl rfl ?_
                | refine ev_conv rfl rfl tabOk rfl rfl rfl (by simp only [lowK, hiK]; omega) ?_)
              exact ev_next (k + 1) (by omega) hz ⟨rfl, rfl, rfl, rfl, rfl, rfl, trivial⟩
          · repeat (first
              | refine stepF_ok tabOk [] (m := 400) rfl ?_
              | refine stepF_ok tabOk [] (m := 16) rfl ?_
              | refine stepF_ok tabOk [] (m := 3) rfl ?_
              | refine stepF_ok tabOk [] (m := 0) rfl ?_
              | refine ev_load rfl rfl tabOk rfl rfl (by assumption) ?_
              | refine ev_loadB rfl rfl tabOk rfl rfl (by assumption) (by rfl) ?_
              | refine ev_loadAggB rfl rfl tabOk rfl rfl (by assumption) (by rfl) ?_
              | refine ev_arith rfl rfl rfl rfl rfl (by simp only [lowK, hiK]; omega) ?_
              | refine ev_rem rfl rfl rfl rfl (by omega) (by omega) ?_
              | refine ev_quo rfl rfl rfl rfl (by omega) (by omega) (by simp only [hiK]; omega) ?_
              | refine ev_index rfl rfl tabOk rfl rfl rfl (by omega) (by omega) ?_
              | refine ev_indexA rfl rfl tabOk rfl rfl rfl (by omega) (by omega) rfl ?_
              | refine ev_convB rfl rfl tabOk rfl rfl rfl rfl ?_
              | refine ev_conv rfl rfl tabOk rfl rfl rfl (by simp only [lowK, hiK]; omega) ?_)
            refine ev_draw mixed (by kernel_rfl) ?_
            repeat (first
              | refine stepQF_ok tabOk (m := 400) rfl ?_
              | refine stepQF_ok tabOk (m := 16) rfl ?_
              | refine stepQF_ok tabOk (m := 3) rfl ?_
              | refine stepQF_ok tabOk (m := 0) rfl ?_
              | refine q_load rfl rfl tabOk rfl rfl (fun _ hf => cell_fr (by assumption) hf id) ?_
              | refine q_loadB rfl rfl tabOk rfl rfl (by assumption) (by rfl) ?_
              | refine q_loadAggB rfl rfl tabOk rfl rfl (by assumption) (by rfl) ?_
              | refine q_arith rfl rfl rfl rfl rfl (by simp only [lowK, hiK]; omega) ?_
              | refine q_rem rfl rfl rfl rfl (by omega) (by omega) ?_
              | refine q_quo rfl rfl rfl rfl (by omega) (by omega) (by simp only [hiK]; omega) ?_
              | refine q_index rfl rfl tabOk rfl rfl rfl (by omega) (by omega) ?_
              | refine q_convB rfl rfl tabOk rfl rfl rfl rfl ?_
              | refine q_conv rfl rfl tabOk rfl rfl rfl (by simp only [lowK, hiK]; omega) ?_)
            refine q_indexAddr (len := v.texts.length) (i := k) rfl rfl tabOk rfl rfl rfl (by omega) (by omega) ?_
            repeat (first
              | refine stepQF_ok tabOk (m := 400) rfl ?_
              | refine stepQF_ok tabOk (m := 16) rfl ?_
              | refine stepQF_ok tabOk (m := 3) rfl ?_
              | refine stepQF_ok tabOk (m := 0) rfl ?_
              | refine q_load rfl rfl tabOk rfl rfl (fun _ hf => cell_fr (by assumption) hf id) ?_
              | refine q_loadB rfl rfl tabOk rfl rfl (by assumption) (by rfl) ?_
              | refine q_loadAggB rfl rfl tabOk rfl rfl (by assumption) (by rfl) ?_
              | refine q_arith rfl rfl rfl rfl rfl (by simp only [lowK, hiK]; omega) ?_
              | refine q_rem rfl rfl rfl rfl (by omega) (by omega) ?_
              | refine q_quo rfl rfl rfl rfl (by omega) (by omega) (by simp only [hiK]; omega) ?_
              | refine q_index rfl rfl tabOk rfl rfl rfl (by omega) (by omega) ?_
              | refine q_convB rfl rfl tabOk rfl rfl rfl rfl ?_
              | refine q_conv rfl rfl tabOk rfl rfl rfl (by simp only [lowK, hiK]; omega) ?_)
            refine q_call rfl rfl rfl pre ?_
            rw [decide_eq_false h3]
            repeat (first
              | refine stepQF_ok tabOk (m := 400) rfl ?_
              | refine stepQF_ok tabOk (m := 16) rfl ?_
              | refine stepQF_ok tabOk (m := 3) rfl ?_
              | refine stepQF_ok tabOk (m := 0) rfl ?_
              | refine q_load rfl rfl tabOk rfl rfl (fun _ hf => cell_fr (by assumption) hf id) ?_
              | refine q_loadB rfl rfl tabOk rfl rfl (by assumption) (by rfl) ?_
              | refine q_loadAggB rfl rfl tabOk rfl rfl (by assumption) (by rfl) ?_
              | refine q_arith rfl rfl rfl rfl rfl (by simp only [lowK, hiK]; omega) ?_
              | refine q_rem rfl rfl rfl rfl (by omega) (by omega) ?_
              | refine q_quo rfl rfl rfl rfl (by omega) (by omega) (by simp only [hiK]; omega) ?_
              | refine q_index rfl rfl tabOk rfl rfl rfl (by omega) (by omega) ?_
              | refine q_convB rfl rfl tabOk rfl rfl rfl rfl ?_
              | refine q_conv rfl rfl tabOk rfl rfl rfl (by simp only [lowK, hiK]; omega) ?_)
            refine q_end fun w6 hf6 => ?_
            have hz := nxt w6 hf6 fun h => h3 ⟨fun e => by have := t_pos hok h.1.1 hk1; rw [e] at this; exact Nat.lt_irrefl 0 this, h.1.2⟩
            clear hO hR hf hB hx pre fin nxt hno
            repeat (first
              | refine stepF_ok tabOk [] (m := 400) rfl ?_
              | refine stepF_ok tabOk [] (m := 16) rfl ?_
              | refine stepF_ok tabOk [] (m := 3) rfl ?_
              | refine stepF_ok tabOk [] (m := 0) rfl ?_
              | refine ev_load rfl rfl tabOk rfl rfl (by assumption) ?_
              | refine ev_loadB rfl rfl tabOk rfl rfl (by assumption) (by rfl) ?_
              | refine ev_loadAggB rfl rfl tabOk rfl rfl (by assumption) (by rfl) ?_
              | refine ev_arith rfl rfl rfl rfl rfl (by simp only [lowK, hiK]; omega) ?_
              | refine ev_rem rfl rfl rfl rfl (by omega) (by omega) ?_
              | refine ev_quo rfl rfl rfl rfl (by omega) (by omega) (by simp only [hiK]; omega) ?_
              | refine ev_index rfl rfl tabOk rfl rfl rfl (by omega) (by omega) ?_
              | refine ev_indexA rfl rfl tabOk rfl rfl rfl (by omega) (by omega) rfl ?_
              | refine ev_convB rfl rfl tabOk rfl rfl rfl rfl ?_
              | refine ev_conv rfl rfl tabOk rfl rfl rfl (by simp only [lowK, hiK]; omega) ?_)
            exact ev_next (k + 1) (by omega) hz ⟨rfl, rfl, rfl, rfl, rfl, rfl, trivial⟩
        · have hkn : k = v.texts.length := by omega
          subst hkn
          exact absurd ⟨n2, n3⟩ (hno _ n1)
      · have hlt : ¬ q < s.length := by have : ¬ (q : Int) < s.length := hlt; omega
        rw [few_end hlt] at hfew
        repeat (first
          | refine stepF_ok tabOk [] (m := 400) rfl ?_
          | refine stepF_ok tabOk [] (m := 16) rfl ?_
          | refine stepF_ok tabOk [] (m := 3) rfl ?_
          | refine stepF_ok tabOk [] (m := 0) rfl ?_
          | refine ev_load rfl rfl tabOk rfl rfl (by assumption) ?_
          | refine ev_loadB rfl rfl tabOk rfl rfl (by assumption) (by rfl) ?_
          | refine ev_loadAggB rfl rfl tabOk rfl rfl (by assumption) (by rfl) ?_
          | refine ev_arith rfl rfl rfl rfl rfl (by simp only [lowK, hiK]; omega) ?_
          | refine ev_rem rfl rfl rfl rfl (by omega) (by omega) ?_
          | refine ev_quo rfl rfl rfl rfl (by omega) (by omega) (by simp only [hiK]; omega) ?_
          | refine ev_index rfl rfl tabOk rfl rfl rfl (by omega) (by omega) ?_
          | refine ev_indexA rfl rfl tabOk rfl rfl rfl (by omega) (by omega) rfl ?_
          | refine ev_convB rfl rfl tabOk rfl rfl rfl rfl ?_
          | refine ev_conv rfl rfl tabOk rfl rfl rfl (by simp only [lowK, hiK]; omega) ?_)
        exact ret3 (.inr rfl) rfl rfl rfl rfl ⟨⟨a, (out, 0, 0), rfl, hO, fun h => absurd h0 h, fun _ _ => by rw [hfew], fun _ h => absurd h2 h⟩, hf⟩
end Go.Wk.Ytjdfdahdobikmaa
