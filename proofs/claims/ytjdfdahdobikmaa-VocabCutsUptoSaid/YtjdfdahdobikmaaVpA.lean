/-
  The walks of chapter 13: how far rows of tokens reach.
-/
import Derived.Test.YtjdfdahdobikmaaVoZ
set_option linter.unusedVariables false
namespace Go.Wk.Ytjdfdahdobikmaa
open Go Go.Wk Go.Proofs

abbrev bo (b : Bool) : Value := .bool b
/-- a row of marks at the head of a block -/
def Rb (w : World) (g cap : Nat) (r : List Bool) : Prop := ∃ cs, Blk w g cs 4 ∧ cs.length = cap ∧ r.length ≤ cap ∧ cs.take r.length = r.map bo
theorem Rb.fr {S : Nat → Prop} {w w' : World} {g cap : Nat} {r : List Bool} (h : Rb w g cap r) (hf : Fr S w w') (hn : ¬ S g) : Rb w' g cap r := by
  obtain ⟨cs, hb, h1, h2, h3⟩ := h
  exact ⟨cs, hb.fr hf hn, h1, h2, h3⟩
theorem Rb.fr0 {w w' : World} {g cap : Nat} {r : List Bool} (h : Rb w g cap r) (hf : Fr no w w') : Rb w' g cap r := h.fr hf id
theorem Rb.lt {w : World} {g cap : Nat} {r : List Bool} (h : Rb w g cap r) : g < w.heap.size := by obtain ⟨cs, hb, _⟩ := h; exact hb.lt
theorem Rb.cell {w : World} {g cap : Nat} {r : List Bool} (h : Rb w g cap r) {j : Nat} (hj : j < r.length) : w.cell? ⟨g, 0 + (j : Int).toNat * 1, none⟩ = some (bo (r.getD j false)) := by
  obtain ⟨cs, hb, h1, h2, h3⟩ := h
  have hc : Cs w (some ⟨g, 0, none⟩) (r.map bo) := by rw [← h3]; exact (Cs.of_blk hb).take _
  rw [Int.toNat_natCast, Nat.mul_one]
  refine hc.at ?_
  rw [List.getElem?_map, List.getElem?_eq_getElem hj, List.getD_eq_getElem?_getD, List.getElem?_eq_getElem hj]
  rfl
theorem Rb.put {cs : List Value} {r : List Bool} {cap j : Nat} {x : Bool} (h1 : cs.length = cap) (h2 : r.length ≤ cap) (h3 : cs.take r.length = r.map bo) (hj : j < r.length) :
    (setV cs j (bo x)).length = cap ∧ (r.set j x).length ≤ cap ∧ (setV cs j (bo x)).take (r.set j x).length = (r.set j x).map bo := by
  rw [setV_eq, List.length_set, List.length_set, List.map_set, List.take_set, h3]
  exact ⟨h1, h2, rfl⟩
/-- marks as they are when the places before q are done and i tokens at q -/
def Mk (v : VV) (s : List UInt8) (q i : Nat) (r : List Bool) : Prop := r.length = s.length + 1 ∧ ∀ j, j ≤ s.length → (r.getD j false = true ↔ v.mkd s q i j)
theorem getD_set {α : Type} {r : List α} {i j : Nat} {x d : α} (hi : i < r.length) : (r.set i x).getD j d = if j = i then x else r.getD j d := by
  rw [List.getD_eq_getElem?_getD, List.getElem?_set, List.getD_eq_getElem?_getD]
  by_cases e : i = j
  · subst e; rw [if_pos rfl, if_pos hi, if_pos rfl]; rfl
  · rw [if_neg e, if_neg (fun h => e h.symm)]
theorem Mk.yes {v : VV} {s : List UInt8} {q i : Nat} {r : List Bool} (h : Mk v s q i r) (hr : v.Rch s q) (hi : i < v.texts.length) (hs : v.sd s q i) : Mk v s q (i + 1) (r.set (q + (v.t i).length) true) := by
  have hle := sd_le hs (rch_le hr)
  refine ⟨by rw [List.length_set]; exact h.1, fun j hj => ?_⟩
  rw [getD_set (by rw [h.1]; omega), mk_yes hr hi hs]
  by_cases e : j = q + (v.t i).length
  · rw [if_pos e]; exact ⟨fun _ => .inl e, fun _ => rfl⟩
  · rw [if_neg e, h.2 j hj]; exact ⟨.inr, fun h => h.resolve_left e⟩
theorem Mk.no {v : VV} {s : List UInt8} {q i : Nat} {r : List Bool} (h : Mk v s q i r) (hs : ¬ v.sd s q i) : Mk v s q (i + 1) r := ⟨h.1, fun j hj => by rw [mk_no hs]; exact h.2 j hj⟩
theorem Mk.next {v : VV} {s : List UInt8} {q : Nat} {r : List Bool} (h : Mk v s q v.texts.length r) : Mk v s (q + 1) 0 r := ⟨h.1, fun j hj => by rw [← mk_next _ (Nat.le_refl _)]; exact h.2 j hj⟩
theorem Mk.skip {v : VV} {s : List UInt8} {q : Nat} {r : List Bool} (h : Mk v s q 0 r) (hr : ¬ v.Rch s q) : Mk v s (q + 1) 0 r := ⟨h.1, fun j hj => by rw [← mk_skip hr]; exact h.2 j hj⟩
theorem Mk.at {v : VV} {s : List UInt8} (hok : v.ok) {q i : Nat} {r : List Bool} (h : Mk v s q i r) (hq : q ≤ s.length) : r.getD q false = true ↔ v.Rch s q := by rw [h.2 q hq, mk_at hok]
theorem Mk.zero (v : VV) (s : List UInt8) {r : List Bool} (h : r.length = s.length + 1) (h0 : ∀ j, j ≤ s.length → (r.getD j false = true ↔ j = 0)) : Mk v s 0 0 r :=
  ⟨h, fun j hj => by
    rw [h0 j hj]
    refine ⟨fun e => .inl e, fun e => ?_⟩
    rcases e with e | ⟨a, k, h, _⟩
    · exact e
    · omega⟩
/-- the furthest place that is reached, of those before q -/
def Far (v : VV) (s : List UInt8) (q f : Nat) : Prop := v.Rch s f ∧ ∀ j, f < j → j < q → ¬ v.Rch s j
theorem Far.skip {v : VV} {s : List UInt8} {q f : Nat} (h : Far v s q f) (hr : ¬ v.Rch s q) : Far v s (q + 1) f := ⟨h.1, fun j h1 h2 => by
  by_cases e : j = q
  · subst e; exact hr
  · exact h.2 j h1 (by omega)⟩
theorem Far.here {v : VV} {s : List UInt8} {q : Nat} (hr : v.Rch s q) : Far v s (q + 1) q := ⟨hr, fun j h1 h2 => by omega⟩
theorem Far.all {v : VV} {s : List UInt8} {f : Nat} (h : Far v s (s.length + 1) f) : ∀ j, f < j → ¬ v.Rch s j := fun j hj hr => h.2 j hj (by have := rch_le hr; omega) hr
theorem cutO {i cap g o : Nat} (h : i < cap) : cutA 1 i cap (some ⟨g, o, none⟩) = some ⟨g, o + i, none⟩ := by
  unfold cutA; rw [if_neg (by omega)]
  simp [Addr.add]

theorem wReach (A : Option Addr) (c : Nat) (B : Option Addr) (d : Nat) (v : VV) (s : List UInt8) (w : World) (hV : Vo w A B v) (hS : VS v) (hok : v.ok) (hc : v.texts.length ≤ c) (hc2 : c ≤ 9223372036854775807) (hs : s.length ≤ 5000000) :
    CallsF Try.prog 41 [vv A c B d v, sv s] w fun r w' => (∃ f : Nat, r = i64 f ∧ v.Rch s f ∧ ∀ j, f < j → ¬ v.Rch s j) ∧ Fr no w w' := by
  have hn := hS.merges
  have hnt := hS.texts
  have htwo := hok.two
  refine callsF Try.func41 rfl rfl (by decide) rfl ?_
  refine stepF_ok tabOk [] (m := 3) rfl ?_
  refine ev_box rfl rfl rfl (fun p wb hp hB hfb => ?_)
  have hB : Blk wb p [.slice A v.texts.length c, .slice B v.merges.length d] 25 := hB
  repeat (first
    | refine stepF_ok tabOk [] (m := 400) rfl ?_
    | refine stepF_ok tabOk [] (m := 16) rfl ?_
    | refine stepF_ok tabOk [] (m := 3) rfl ?_
    | refine stepF_ok tabOk [] (m := 0) rfl ?_
    | refine ev_load rfl rfl tabOk rfl rfl (by assumption) ?_
    | refine ev_loadB rfl rfl tabOk rfl rfl (by assumption) (by rfl) ?_
    | refine ev_loadAggB rfl rfl tabOk rfl rfl (by assumption) (by rfl) ?_
    | refine ev_arith rfl rfl rfl rfl rfl (by simp only [lowK, hiK]; omega) ?_
    | refine ev_rem rfl rfl rfl rfl (by omega) (by omega) ?_
    | refine ev_quo rfl rfl rfl rfl (by omega) (by omega) (by simp only [hiK]; omega) ?_
    | refine ev_index rfl rfl tabOk rfl rfl rfl (by omega) (by omega) ?_
    | refine ev_indexA rfl rfl tabOk rfl rfl rfl (by omega) (by omega) rfl ?_
    | refine ev_convB rfl rfl tabOk rfl rfl rfl rfl ?_
    | refine ev_conv rfl rfl tabOk rfl rfl rfl (by simp only [lowK, hiK]; omega) ?_)
  refine ev_make tabOk rfl rfl rfl inf4 rfl rfl (by omega) (by omega) (by omega) (fun g w2 hg hG hf2 => ?_)
  have e0 : ((s.length : Int) + 1).toNat = s.length + 1 := by omega
  have e1 : (madeCells (Value.cells (.bool false)) (((s.length : Int) + 1).toNat * 1)).toList = List.replicate (s.length + 1) (.bool false) := by
    rw [e0, Nat.mul_one]; exact toList_madeCells_one _ _
  rw [e1] at hG
  rw [e0]
  have hB2 := hB.fr0 hf2
  have hf02 := hfb.tr hf2
  have hgw : w.heap.size ≤ g := by have := hfb.size; omega
  have hpg : p < g := by have := hB.lt; omega
  clear hB hfb hf2 hg
  repeat (first
    | refine stepF_ok tabOk [] (m := 400) rfl ?_
    | refine stepF_ok tabOk [] (m := 16) rfl ?_
    | refine stepF_ok tabOk [] (m := 3) rfl ?_
    | refine stepF_ok tabOk [] (m := 0) rfl ?_
    | refine ev_load rfl rfl tabOk rfl rfl (by assumption) ?_
    | refine ev_loadB rfl rfl tabOk rfl rfl (by assumption) (by rfl) ?_
    | refine ev_loadAggB rfl rfl tabOk rfl rfl (by assumption) (by rfl) ?_
    | refine ev_arith rfl rfl rfl rfl rfl (by simp only [lowK, hiK]; omega) ?_
    | refine ev_rem rfl rfl rfl rfl (by omega) (by omega) ?_
    | refine ev_quo rfl rfl rfl rfl (by omega) (by omega) (by simp only [hiK]; omega) ?_
    | refine ev_index rfl rfl tabOk rfl rfl rfl (by omega) (by omega) ?_
    | refine ev_indexA rfl rfl tabOk rfl rfl rfl (by omega) (by omega) rfl ?_
    | refine ev_convB rfl rfl tabOk rfl rfl rfl rfl ?_
    | refine ev_conv rfl rfl tabOk rfl rfl rfl (by simp only [lowK, hiK]; omega) ?_)
  refine ev_indexAddr (len := s.length + 1) (i := 0) rfl rfl tabOk rfl rfl rfl (by omega) (by omega) ?_
  refine ev_store tabOk rfl rfl rfl rfl rfl rfl hG (by rw [Nat.blt_eq, List.length_replicate]; show 0 + 0 * 1 < _; omega) (fun w3 hG3 hf3 => ?_)
  have hM : ∃ r, Rb w3 g (s.length + 1) r ∧ Mk v s 0 0 r := by
    refine ⟨(List.replicate (s.length + 1) false).set 0 true, ⟨_, hG3, Rb.put (r := List.replicate (s.length + 1) false) (j := 0) (x := true) (by rw [List.length_replicate]) (by rw [List.length_replicate]; exact Nat.le_refl _) (by simp) (by rw [List.length_replicate]; omega)⟩, Mk.zero v s (by simp) fun j hj => ?_⟩
    rw [getD_set (by rw [List.length_replicate]; omega)]
    by_cases e : j = 0
    · rw [if_pos e]; exact ⟨fun _ => e, fun _ => rfl⟩
    · rw [if_neg e, List.getD_eq_getElem?_getD, List.getElem?_replicate]; refine ⟨fun h => ?_, fun h => absurd h e⟩; split at h <;> cases h
  have hf03 : Fr no w w3 := old hf02 (by omega) hf3
  have hB3 := hB2.fr hf3 (fun e => by have : p = g := e; omega)
  clear hG hG3 hf3 hB2 hf02
  repeat (first
    | refine stepF_ok tabOk [] (m := 400) rfl ?_
    | refine stepF_ok tabOk [] (m := 16) rfl ?_
    | refine stepF_ok tabOk [] (m := 3) rfl ?_
    | refine stepF_ok tabOk [] (m := 0) rfl ?_
    | refine ev_load rfl rfl tabOk rfl rfl (by assumption) ?_
    | refine ev_loadB rfl rfl tabOk rfl rfl (by assumption) (by rfl) ?_
    | refine ev_loadAggB rfl rfl tabOk rfl rfl (by assumption) (by rfl) ?_
    | refine ev_arith rfl rfl rfl rfl rfl (by simp only [lowK, hiK]; omega) ?_
    | refine ev_rem rfl rfl rfl rfl (by omega) (by omega) ?_
    | refine ev_quo rfl rfl rfl rfl (by omega) (by omega) (by simp only [hiK]; omega) ?_
    | refine ev_index rfl rfl tabOk rfl rfl rfl (by omega) (by omega) ?_
    | refine ev_indexA rfl rfl tabOk rfl rfl rfl (by omega) (by omega) rfl ?_
    | refine ev_convB rfl rfl tabOk rfl rfl rfl rfl ?_
    | refine ev_conv rfl rfl tabOk rfl rfl rfl (by simp only [lowK, hiK]; omega) ?_)
  refine ev_loop (α := Nat × Nat) (fun y => [(1, sv s), (2, .pointer (some ⟨p, 0, none⟩)), (5, .slice (some ⟨g, 0, none⟩) (s.length + 1) (s.length + 1)), (6, i64 y.2), (18, .int .i64 ((s.length : Int) + 1)), (19, i64 y.1)])
    (fun y w' => y.1 ≤ s.length + 1 ∧ (∃ r, Rb w' g (s.length + 1) r ∧ Mk v s y.1 0 r) ∧ Far v s y.1 y.2 ∧ Fr no w w' ∧ Blk w' p [.slice A v.texts.length c, .slice B v.merges.length d] 25) (fun y => s.length + 1 - y.1) (0, 0) ⟨rfl, rfl, rfl, rfl, rfl, rfl, trivial⟩ ⟨Nat.zero_le _, hM, ⟨.zero, fun j _ h => absurd h (Nat.not_lt_zero _)⟩, hf03, hB3⟩ ?_
  clear hM hf03 hB3
  rintro ⟨q, f⟩ w4 ⟨hq, ⟨r, hR, hM⟩, hF, hf, hB⟩
  simp only at hq hM hF
  repeat (first
    | refine stepF_ok tabOk [] (m := 400) rfl ?_
    | refine stepF_ok tabOk [] (m := 16) rfl ?_
    | refine stepF_ok tabOk [] (m := 3) rfl ?_
    | refine stepF_ok tabOk [] (m := 0) rfl ?_
    | refine ev_load rfl rfl tabOk rfl rfl (by assumption) ?_
    | refine ev_loadB rfl rfl tabOk rfl rfl (by assumption) (by rfl) ?_
    | refine ev_loadAggB rfl rfl tabOk rfl rfl (by assumption) (by rfl) ?_
    | refine ev_arith rfl rfl rfl rfl rfl (by simp only [lowK, hiK]; omega) ?_
    | refine ev_rem rfl rfl rfl rfl (by omega) (by omega) ?_
    | refine ev_quo rfl rfl rfl rfl (by omega) (by omega) (by simp only [hiK]; omega) ?_
    | refine ev_index rfl rfl tabOk rfl rfl rfl (by omega) (by omega) ?_
    | refine ev_indexA rfl rfl tabOk rfl rfl rfl (by omega) (by omega) rfl ?_
    | refine ev_convB rfl rfl tabOk rfl rfl rfl rfl ?_
    | refine ev_conv rfl rfl tabOk rfl rfl rfl (by simp only [lowK, hiK]; omega) ?_)
  refine ev_condD rfl (fun hlt => ?_) (fun hlt => ?_)
  · have hq1 : q ≤ s.length := by have : (q : Int) < (s.length : Int) + 1 := hlt; omega
    have hx := hR.cell (j := q) (by rw [hM.1]; omega)
    have hat := hM.at hok hq1
    obtain ⟨b, hb⟩ : ∃ b, b = r.getD q false := ⟨_, rfl⟩
    rw [← hb] at hx hat
    have hx : w4.cell? ⟨g, 0 + (q : Int).toNat * 1, none⟩ = some (bo b) := hx
    repeat (first
      | refine stepF_ok tabOk [] (m := 400) rfl ?_
      | refine stepF_ok tabOk [] (m := 16) rfl ?_
      | refine stepF_ok tabOk [] (m := 3) rfl ?_
      | refine stepF_ok tabOk [] (m := 0) rfl ?_
      | refine ev_load rfl rfl tabOk rfl rfl (by assumption) ?_
      | refine ev_loadB rfl rfl tabOk rfl rfl (by assumption) (by rfl) ?_
      | refine ev_loadAggB rfl rfl tabOk rfl rfl (by assumption) (by rfl) ?_
      | refine ev_arith rfl rfl rfl rfl rfl (by simp only [lowK, hiK]; omega) ?_
      | refine ev_rem rfl rfl rfl rfl (by omega) (by omega) ?_
      | refine ev_quo rfl rfl rfl rfl (by omega) (by omega) (by simp only [hiK]; omega) ?_
      | refine ev_index rfl rfl tabOk rfl rfl rfl (by omega) (by omega) ?_
      | refine ev_indexA rfl rfl tabOk rfl rfl rfl (by omega) (by omega) rfl ?_
      | refine ev_convB rfl rfl tabOk rfl rfl rfl rfl ?_
      | refine ev_conv rfl rfl tabOk rfl rfl rfl (by simp only [lowK, hiK]; omega) ?_)
    refine ev_indexAddr (len := s.length + 1) (i := q) rfl rfl tabOk rfl rfl rfl (by omega) (by omega) ?_
    cases b with
    | false =>
      have hnr : ¬ v.Rch s q := fun h => by have := hat.2 h; cases this
      repeat (first
        | refine stepF_ok tabOk [] (m := 400) rfl ?_
        | refine stepF_ok tabOk [] (m := 16) rfl ?_
        | refine stepF_ok tabOk [] (m := 3) rfl ?_
        | refine stepF_ok tabOk [] (m := 0) rfl ?_
        | refine ev_load rfl rfl tabOk rfl rfl (by assumption) ?_
        | refine ev_loadB rfl rfl tabOk rfl rfl (by assumption) (by rfl) ?_
        | refine ev_loadAggB rfl rfl tabOk rfl rfl (by assumption) (by rfl) ?_
        | refine ev_arith rfl rfl rfl rfl rfl (by simp only [lowK, hiK]; omega) ?_
        | refine ev_rem rfl rfl rfl rfl (by omega) (by omega) ?_
        | refine ev_quo rfl rfl rfl rfl (by omega) (by omega) (by simp only [hiK]; omega) ?_
        | refine ev_index rfl rfl tabOk rfl rfl rfl (by omega) (by omega) ?_
        | refine ev_indexA rfl rfl tabOk rfl rfl rfl (by omega) (by omega) rfl ?_
        | refine ev_convB rfl rfl tabOk rfl rfl rfl rfl ?_
        | refine ev_conv rfl rfl tabOk rfl rfl rfl (by simp only [lowK, hiK]; omega) ?_)
      exact ev_next (q + 1, f) (by simp only; omega) ⟨by simp only; omega, ⟨r, hR, hM.skip hnr⟩, hF.skip hnr, hf, hB⟩ ⟨rfl, rfl, rfl, rfl, rfl, rfl, trivial⟩
    | true =>
      have hr := hat.1 rfl
      repeat (first
        | refine stepF_ok tabOk [] (m := 400) rfl ?_
        | refine stepF_ok tabOk [] (m := 16) rfl ?_
        | refine stepF_ok tabOk [] (m := 3) rfl ?_
        | refine stepF_ok tabOk [] (m := 0) rfl ?_
        | refine ev_load rfl rfl tabOk rfl rfl (by assumption) ?_
        | refine ev_loadB rfl rfl tabOk rfl rfl (by assumption) (by rfl) ?_
        | refine ev_loadAggB rfl rfl tabOk rfl rfl (by assumption) (by rfl) ?_
        | refine ev_arith rfl rfl rfl rfl rfl (by simp only [lowK, hiK]; omega) ?_
        | refine ev_rem rfl rfl rfl rfl (by omega) (by omega) ?_
        | refine ev_quo rfl rfl rfl rfl (by omega) (by omega) (by simp only [hiK]; omega) ?_
        | refine ev_index rfl rfl tabOk rfl rfl rfl (by omega) (by omega) ?_
        | refine ev_indexA rfl rfl tabOk rfl rfl rfl (by omega) (by omega) rfl ?_
        | refine ev_convB rfl rfl tabOk rfl rfl rfl rfl ?_
        | refine ev_conv rfl rfl tabOk rfl rfl rfl (by simp only [lowK, hiK]; omega) ?_)
      have hV4 := hV.fr0 hf
      obtain ⟨ga, oa, e2, _⟩ := strs_at hV4.1 (j := 0) (by omega)
      subst e2
      refine ev_slice (A := some ⟨ga, oa, none⟩) (len := v.texts.length) (cap := c) (i := 1) (j := v.texts.length) rfl rfl tabOk rfl rfl rfl rfl (by omega) (by omega) (by omega) ?_
      rw [show (1 : Int).toNat = 1 from rfl, cutO (show 1 < c by omega), Int.toNat_natCast]
      have e3 : ((v.texts.length - 1 : Nat) : Int) = (v.texts.length : Int) - 1 := by omega
      have hM1 : Mk v s q (0 + 1) r := hM.no fun h => absurd h.1 (Nat.lt_irrefl 0)
      have hF2 := Far.here hr
      clear hx hM hF hV4 hb hat
      repeat (first
        | refine stepF_ok tabOk [] (m := 400) rfl ?_
        | refine stepF_ok tabOk [] (m := 16) rfl ?_
        | refine stepF_ok tabOk [] (m := 3) rfl ?_
        | refine stepF_ok tabOk [] (m := 0) rfl ?_
        | refine ev_load rfl rfl tabOk rfl rfl (by assumption) ?_
        | refine ev_loadB rfl rfl tabOk rfl rfl (by assumption) (by rfl) ?_
        | refine ev_loadAggB rfl rfl tabOk rfl rfl (by assumption) (by rfl) ?_
        | refine ev_arith rfl rfl rfl rfl rfl (by simp only [lowK, hiK]; omega) ?_
        | refine ev_rem rfl rfl rfl rfl (by omega) (by omega) ?_
        | refine ev_quo rfl rfl rfl rfl (by omega) (by omega) (by simp only [hiK]; omega) ?_
        | refine ev_index rfl rfl tabOk rfl rfl rfl (by omega) (by omega) ?_
        | refine ev_indexA rfl rfl tabOk rfl rfl rfl (by omega) (by omega) rfl ?_
        | refine ev_convB rfl rfl tabOk rfl rfl rfl rfl ?_
        | refine ev_conv rfl rfl tabOk rfl rfl rfl (by simp only [lowK, hiK]; omega) ?_)
      refine ev_loop (α := Nat) (fun k => [(1, sv s), (2, .pointer (some ⟨p, 0, none⟩)), (5, .slice (some ⟨g, 0, none⟩) (s.length + 1) (s.length + 1)), (6, i64 q), (7, i64 q), (18, .int .i64 ((s.length : Int) + 1)), (19, i64 q), (30, .slice (some ⟨ga, oa + 1, none⟩) (v.texts.length - 1) (c - 1)), (31, i64 (v.texts.length - 1 : Nat)), (32, i64 k)])
        (fun k w' => k + 1 ≤ v.texts.length ∧ (∃ r, Rb w' g (s.length + 1) r ∧ Mk v s q (k + 1) r) ∧ Fr no w w' ∧ Blk w' p [.slice (some ⟨ga, oa, none⟩) v.texts.length c, .slice B v.merges.length d] 25) (fun k => v.texts.length - k) 0 ⟨rfl, rfl, rfl, rfl, rfl, rfl, rfl, rfl, rfl, rfl, trivial⟩ ⟨by omega, ⟨r, hR, hM1⟩, hf, hB⟩ ?_
      clear hR hM1 hf hB
      rintro k w5 ⟨hk, ⟨r, hR, hM⟩, hf, hB⟩
      repeat (first
        | refine stepF_ok tabOk [] (m := 400) rfl ?_
        | refine stepF_ok tabOk [] (m := 16) rfl ?_
        | refine stepF_ok tabOk [] (m := 3) rfl ?_
        | refine stepF_ok tabOk [] (m := 0) rfl ?_
        | refine ev_load rfl rfl tabOk rfl rfl (by assumption) ?_
        | refine ev_loadB rfl rfl tabOk rfl rfl (by assumption) (by rfl) ?_
        | refine ev_loadAggB rfl rfl tabOk rfl rfl (by assumption) (by rfl) ?_
        | refine ev_arith rfl rfl rfl rfl rfl (by simp only [lowK, hiK]; omega) ?_
        | refine ev_rem rfl rfl rfl rfl (by omega) (by omega) ?_
        | refine ev_quo rfl rfl rfl rfl (by omega) (by omega) (by simp only [hiK]; omega) ?_
        | refine ev_index rfl rfl tabOk rfl rfl rfl (by omega) (by omega) ?_
        | refine ev_indexA rfl rfl tabOk rfl rfl rfl (by omega) (by omega) rfl ?_
        | refine ev_convB rfl rfl tabOk rfl rfl rfl rfl ?_
        | refine ev_conv rfl rfl tabOk rfl rfl rfl (by simp only [lowK, hiK]; omega) ?_)
      refine ev_condD rfl (fun hk2 => ?_) (fun hk2 => ?_)
      · have hk1 : k + 1 < v.texts.length := by omega
        have hy : w5.cell? ⟨ga, oa + 1 + (k : Int).toNat * 1, none⟩ = some (sv (v.t (k + 1))) := by
          obtain ⟨g', o', e', hc⟩ := strs_at (hV.fr0 hf).1 hk1
          cases e'
          rw [show oa + 1 + (k : Int).toNat * 1 = oa + ((k + 1 : Nat) : Int).toNat * 1 by omega]; exact hc
        have hle1 := hS.len (k + 1)
        repeat (first
          | refine stepF_ok tabOk [] (m := 400) rfl ?_
          | refine stepF_ok tabOk [] (m := 16) rfl ?_
          | refine stepF_ok tabOk [] (m := 3) rfl ?_
          | refine stepF_ok tabOk [] (m := 0) rfl ?_
          | refine ev_load rfl rfl tabOk rfl rfl (by assumption) ?_
          | refine ev_loadB rfl rfl tabOk rfl rfl (by assumption) (by rfl) ?_
          | refine ev_loadAggB rfl rfl tabOk rfl rfl (by assumption) (by rfl) ?_
          | refine ev_arith rfl rfl rfl rfl rfl (by simp only [lowK, hiK]; omega) ?_
          | refine ev_rem rfl rfl rfl rfl (by omega) (by omega) ?_
          | refine ev_quo rfl rfl rfl rfl (by omega) (by omega) (by simp only [hiK]; omega) ?_
          | refine ev_index rfl rfl tabOk rfl rfl rfl (by omega) (by omega) ?_
          | refine ev_indexA rfl rfl tabOk rfl rfl rfl (by omega) (by omega) rfl ?_
          | refine ev_convB rfl rfl tabOk rfl rfl rfl rfl ?_
          | refine ev_conv rfl rfl tabOk rfl rfl rfl (by simp only [lowK, hiK]; omega) ?_)
        refine ev_indexAddr (len := v.texts.length - 1) (i := k) rfl rfl tabOk rfl rfl rfl (by omega) (by omega) ?_
        repeat (first
          | refine stepF_ok tabOk [] (m := 400) rfl ?_
          | refine stepF_ok tabOk [] (m := 16) rfl ?_
          | refine stepF_ok tabOk [] (m := 3) rfl ?_
          | refine stepF_ok tabOk [] (m := 0) rfl ?_
          | refine ev_load rfl rfl tabOk rfl rfl (by assumption) ?_
          | refine ev_loadB rfl rfl tabOk rfl rfl (by assumption) (by rfl) ?_
          | refine ev_loadAggB rfl rfl tabOk rfl rfl (by assumption) (by rfl) ?_
          | refine ev_arith rfl rfl rfl rfl rfl (by simp only [lowK, hiK]; omega) ?_
          | refine ev_rem rfl rfl rfl rfl (by omega) (by omega) ?_
          | refine ev_quo rfl rfl rfl rfl (by omega) (by omega) (by simp only [hiK]; omega) ?_
          | refine ev_index rfl rfl tabOk rfl rfl rfl (by omega) (by omega) ?_
          | refine ev_indexA rfl rfl tabOk rfl rfl rfl (by omega) (by omega) rfl ?_
          | refine ev_convB rfl rfl tabOk rfl rfl rfl rfl ?_
          | refine ev_conv rfl rfl tabOk rfl rfl rfl (by simp only [lowK, hiK]; omega) ?_)
        refine ev_sliceStr (s := s) (i := q) (j := s.length) rfl rfl tabOk rfl rfl rfl rfl (by omega) (by omega) (by omega) ?_
        rw [drop_all]
        repeat (first
          | refine stepF_ok tabOk [] (m := 400) rfl ?_
          | refine stepF_ok tabOk [] (m := 16) rfl ?_
          | refine stepF_ok tabOk [] (m := 3) rfl ?_
          | refine stepF_ok tabOk [] (m := 0) rfl ?_
          | refine ev_load rfl rfl tabOk rfl rfl (by assumption) ?_
          | refine ev_loadB rfl rfl tabOk rfl rfl (by assumption) (by rfl) ?_
          | refine ev_loadAggB rfl rfl tabOk rfl rfl (by assumption) (by rfl) ?_
          | refine ev_arith rfl rfl rfl rfl rfl (by simp only [lowK, hiK]; omega) ?_
          | refine ev_rem rfl rfl rfl rfl (by omega) (by omega) ?_
          | refine ev_quo rfl rfl rfl rfl (by omega) (by omega) (by simp only [hiK]; omega) ?_
          | refine ev_index rfl rfl tabOk rfl rfl rfl (by omega) (by omega) ?_
          | refine ev_indexA rfl rfl tabOk rfl rfl rfl (by omega) (by omega) rfl ?_
          | refine ev_convB rfl rfl tabOk rfl rfl rfl rfl ?_
          | refine ev_conv rfl rfl tabOk rfl rfl rfl (by simp only [lowK, hiK]; omega) ?_)
        refine ev_call rfl rfl rfl (wPre (s.drop q) (v.t (k + 1)) _ (by rw [List.length_drop]; omega) hle1) (fun u w6 hu => ?_)
        obtain ⟨rfl, rfl⟩ := hu
        repeat (first
          | refine stepF_ok tabOk [] (m := 400) rfl ?_
          | refine stepF_ok tabOk [] (m := 16) rfl ?_
          | refine stepF_ok tabOk [] (m := 3) rfl ?_
          | refine stepF_ok tabOk [] (m := 0) rfl ?_
          | refine ev_load rfl rfl tabOk rfl rfl (by assumption) ?_
          | refine ev_loadB rfl rfl tabOk rfl rfl (by assumption) (by rfl) ?_
          | refine ev_loadAggB rfl rfl tabOk rfl rfl (by assumption) (by rfl) ?_
          | refine ev_arith rfl rfl rfl rfl rfl (by simp only [lowK, hiK]; omega) ?_
          | refine ev_rem rfl rfl rfl rfl (by omega) (by omega) ?_
          | refine ev_quo rfl rfl rfl rfl (by omega) (by omega) (by simp only [hiK]; omega) ?_
          | refine ev_index rfl rfl tabOk rfl rfl rfl (by omega) (by omega) ?_
          | refine ev_indexA rfl rfl tabOk rfl rfl rfl (by omega) (by omega) rfl ?_
          | refine ev_convB rfl rfl tabOk rfl rfl rfl rfl ?_
          | refine ev_conv rfl rfl tabOk rfl rfl rfl (by simp only [lowK, hiK]; omega) ?_)
        refine ev_condD rfl (fun h2 => ?_) (fun h2 => ?_)
        · have hsd : v.sd s q (k + 1) := ⟨by omega, h2⟩
          have hle := sd_le hsd hq1
          have hM2 := hM.yes hr hk1 hsd
          obtain ⟨cs, hb5, h1, h3, h4⟩ := hR
          have hput := Rb.put (j := q + (v.t (k + 1)).length) (x := true) h1 h3 h4 (by rw [hM.1]; omega)
          repeat (first
            | refine stepF_ok tabOk [] (m := 400) rfl ?_
            | refine stepF_ok tabOk [] (m := 16) rfl ?_
            | refine stepF_ok tabOk [] (m := 3) rfl ?_
            | refine stepF_ok tabOk [] (m := 0) rfl ?_
            | refine ev_load rfl rfl tabOk rfl rfl (by assumption) ?_
            | refine ev_loadB rfl rfl tabOk rfl rfl (by assumption) (by rfl) ?_
            | refine ev_loadAggB rfl rfl tabOk rfl rfl (by assumption) (by rfl) ?_
            | refine ev_arith rfl rfl rfl rfl rfl (by simp only [lowK, hiK]; omega) ?_
            | refine ev_rem rfl rfl rfl rfl (by omega) (by omega) ?_
            | refine ev_quo rfl rfl rfl rfl (by omega) (by omega) (by simp only [hiK]; omega) ?_
            | refine ev_index rfl rfl tabOk rfl rfl rfl (by omega) (by omega) ?_
            | refine ev_indexA rfl rfl tabOk rfl rfl rfl (by omega) (by omega) rfl ?_
            | refine ev_convB rfl rfl tabOk rfl rfl rfl rfl ?_
            | refine ev_conv rfl rfl tabOk rfl rfl rfl (by simp only [lowK, hiK]; omega) ?_)
          refine ev_indexAddr (len := s.length + 1) (i := (q : Int) + (v.t (k + 1)).length) rfl rfl tabOk rfl rfl rfl (by omega) (by omega) ?_
          rw [show 0 + ((q : Int) + (v.t (k + 1)).length).toNat * 1 = q + (v.t (k + 1)).length by omega]
          refine ev_store tabOk rfl rfl rfl rfl rfl rfl hb5 (by rw [Nat.blt_eq, h1]; omega) (fun w7 hb7 hf7 => ?_)
          have hR7 : Rb w7 g (s.length + 1) _ := ⟨_, hb7, hput⟩
          have hf07 : Fr no w w7 := old hf (by omega) hf7
          have hB7 := hB.fr hf7 (fun e => by have : p = g := e; omega)
          clear hb5 h1 h3 h4 hput hb7 hf7 hB hy hf hM
          repeat (first
            | refine stepF_ok tabOk [] (m := 400) rfl ?_
            | refine stepF_ok tabOk [] (m := 16) rfl ?_
            | refine stepF_ok tabOk [] (m := 3) rfl ?_
            | refine stepF_ok tabOk [] (m := 0) rfl ?_
            | refine ev_load rfl rfl tabOk rfl rfl (by assumption) ?_
            | refine ev_loadB rfl rfl tabOk rfl rfl (by assumption) (by rfl) ?_
            | refine ev_loadAggB rfl rfl tabOk rfl rfl (by assumption) (by rfl) ?_
            | refine ev_arith rfl rfl rfl rfl rfl (by simp only [lowK, hiK]; omega) ?_
            | refine ev_rem rfl rfl rfl rfl (by omega) (by omega) ?_
            | refine ev_quo rfl rfl rfl rfl (by omega) (by omega) (by simp only [hiK]; omega) ?_
            | refine ev_index rfl rfl tabOk rfl rfl rfl (by omega) (by omega) ?_
            | refine ev_indexA rfl rfl tabOk rfl rfl rfl (by omega) (by omega) rfl ?_
            | refine ev_convB rfl rfl tabOk rfl rfl rfl rfl ?_
            | refine ev_conv rfl rfl tabOk rfl rfl rfl (by simp only [lowK, hiK]; omega) ?_)
          exact ev_next (k + 1) (by omega) ⟨by omega, ⟨_, hR7, hM2⟩, hf07, hB7⟩ ⟨rfl, rfl, rfl, rfl, rfl, rfl, rfl, rfl, rfl, rfl, trivial⟩
        · have hM2 : Mk v s q (k + 1 + 1) r := hM.no fun h => h2 h.2
          repeat (first
            | refine stepF_ok tabOk [] (m := 400) rfl ?_
            | refine stepF_ok tabOk [] (m := 16) rfl ?_
            | refine stepF_ok tabOk [] (m := 3) rfl ?_
            | refine stepF_ok tabOk [] (m := 0) rfl ?_
            | refine ev_load rfl rfl tabOk rfl rfl (by assumption) ?_
            | refine ev_loadB rfl rfl tabOk rfl rfl (by assumption) (by rfl) ?_
            | refine ev_loadAggB rfl rfl tabOk rfl rfl (by assumption) (by rfl) ?_
            | refine ev_arith rfl rfl rfl rfl rfl (by simp only [lowK, hiK]; omega) ?_
            | refine ev_rem rfl rfl rfl rfl (by omega) (by omega) ?_
            | refine ev_quo rfl rfl rfl rfl (by omega) (by omega) (by simp only [hiK]; omega) ?_
            | refine ev_index rfl rfl tabOk rfl rfl rfl (by omega) (by omega) ?_
            | refine ev_indexA rfl rfl tabOk rfl rfl rfl (by omega) (by omega) rfl ?_
            | refine ev_convB rfl rfl tabOk rfl rfl rfl rfl ?_
            | refine ev_conv rfl rfl tabOk rfl rfl rfl (by simp only [lowK, hiK]; omega) ?_)
          exact ev_next (k + 1) (by omega) ⟨by omega, ⟨_, hR, hM2⟩, hf, hB⟩ ⟨rfl, rfl, rfl, rfl, rfl, rfl, rfl, rfl, rfl, rfl, trivial⟩
      · have hkn : k + 1 = v.texts.length := by omega
        rw [hkn] at hM
        repeat (first
          | refine stepF_ok tabOk [] (m := 400) rfl ?_
          | refine stepF_ok tabOk [] (m := 16) rfl ?_
          | refine stepF_ok tabOk [] (m := 3) rfl ?_
          | refine stepF_ok tabOk [] (m := 0) rfl ?_
          | refine ev_load rfl rfl tabOk rfl rfl (by assumption) ?_
          | refine ev_loadB rfl rfl tabOk rfl rfl (by assumption) (by rfl) ?_
          | refine ev_loadAggB rfl rfl tabOk rfl rfl (by assumption) (by rfl) ?_
          | refine ev_arith rfl rfl rfl rfl rfl (by simp only [lowK, hiK]; omega) ?_
          | refine ev_rem rfl rfl rfl rfl (by omega) (by omega) ?_
          | refine ev_quo rfl rfl rfl rfl (by omega) (by omega) (by simp only [hiK]; omega) ?_
          | refine ev_index rfl rfl tabOk rfl rfl rfl (by omega) (by omega) ?_
          | refine ev_indexA rfl rfl tabOk rfl rfl rfl (by omega) (by omega) rfl ?_
          | refine ev_convB rfl rfl tabOk rfl rfl rfl rfl ?_
          | refine ev_conv rfl rfl tabOk rfl rfl rfl (by simp only [lowK, hiK]; omega) ?_)
        exact ev_next (q + 1, q) (by simp only; omega) ⟨by simp only; omega, ⟨r, hR, hM.next⟩, hF2, hf, hB⟩ ⟨rfl, rfl, rfl, rfl, rfl, rfl, trivial⟩
  · have hqe : q = s.length + 1 := by have : ¬ (q : Int) < (s.length : Int) + 1 := hlt; omega
    subst hqe
    repeat (first
      | refine stepF_ok tabOk [] (m := 400) rfl ?_
      | refine stepF_ok tabOk [] (m := 16) rfl ?_
      | refine stepF_ok tabOk [] (m := 3) rfl ?_
      | refine stepF_ok tabOk [] (m := 0) rfl ?_
      | refine ev_load rfl rfl tabOk rfl rfl (by assumption) ?_
      | refine ev_loadB rfl rfl tabOk rfl rfl (by assumption) (by rfl) ?_
      | refine ev_loadAggB rfl rfl tabOk rfl rfl (by assumption) (by rfl) ?_
      | refine ev_arith rfl rfl rfl rfl rfl (by simp only [lowK, hiK]; omega) ?_
      | refine ev_rem rfl rfl rfl rfl (by omega) (by omega) ?_
      | refine ev_quo rfl rfl rfl rfl (by omega) (by omega) (by simp only [hiK]; omega) ?_
      | refine ev_index rfl rfl tabOk rfl rfl rfl (by omega) (by omega) ?_
      | refine ev_indexA rfl rfl tabOk rfl rfl rfl (by omega) (by omega) rfl ?_
      | refine ev_convB rfl rfl tabOk rfl rfl rfl rfl ?_
      | refine ev_conv rfl rfl tabOk rfl rfl rfl (by simp only [lowK, hiK]; omega) ?_)
    exact ret1 (.inr rfl) rfl rfl ⟨⟨f, rfl, hF.1, hF.all⟩, hf⟩
end Go.Wk.Ytjdfdahdobikmaa
