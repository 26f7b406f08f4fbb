/-
  WireBack: the walk.
-/
import Derived.Test.YtihjpjpellagiaaWireZ
import Derived.Test.YtihjpjpellagiaaWireO
set_option linter.unusedVariables false
namespace Go.Wk.Ytihjpjpellagiaa
open Go Go.Wk Go.Proofs

def okV (x : OpV) : Value := .bool (okB x)
/-- a writer in new memory, and a row of answers beside it -/
def WB (W w : World) (p : Nat) (bs : List UInt8) (u : Value) (m : Nat) (xs : List Value) : Prop := ∃ v, Wr w p v bs ∧ Fr no W w ∧ W.heap.size ≤ p ∧ (∀ g, v.ownBlock = some g → W.heap.size ≤ g) ∧ Own w 4 1 u m xs ∧ ∀ g, u.ownBlock = some g → W.heap.size ≤ g ∧ ¬ WS p v g
theorem WB.step {W w w' : World} {p : Nat} {bs' : List UInt8} {v u : Value} {m : Nat} {xs : List Value} (h1 : Fr no W w) (hp : W.heap.size ≤ p) (hg : ∀ g, v.ownBlock = some g → W.heap.size ≤ g) (ho : Own w 4 1 u m xs) (hu : ∀ g, u.ownBlock = some g → W.heap.size ≤ g ∧ ¬ WS p v g)
    (h : ∃ v', Wr w' p v' bs' ∧ Fr (WS p v) w w' ∧ NB w v v') : WB W w' p bs' u m xs := by
  obtain ⟨v', hw, hf, hn⟩ := h
  obtain ⟨v2, k1, k2, k3, k4⟩ := WI.step h1 hp hg ⟨v', hw, hf, hn⟩
  refine ⟨v', hw, k2, hp, fun g hg' => ?_, ho.fr hf (fun g hg => (hu g hg).2), fun g hg' => ⟨(hu g hg').1, fun hx => ?_⟩⟩
  · rcases hn g hg' with h2 | h2
    · exact hg g h2
    · have := h1.size; omega
  · have hlt := Own.lt ho g hg'
    exact (hu g hg').2 (WS_sub hn g hlt hx)
theorem WB.put {W w w' : World} {p : Nat} {bs : List UInt8} {u u' : Value} {m m' : Nat} {xs xs' : List Value} (h : WB W w p bs u m xs) (ho : Own w' 4 1 u' m' xs') (hf : Fr (fun q => u.ownBlock = some q) w w') (hn : NB w u u') : WB W w' p bs u' m' xs' := by
  obtain ⟨v, hw, h1, hp, hg, ho0, hu⟩ := h
  have hvl : ∀ g, WS p v g → g < w.heap.size := fun g hx => by
    rcases hx with rfl | hx
    · exact hw.1.lt
    · exact Own.lt hw.2.1 g hx
  refine ⟨v, hw.fr hf (fun e => (hu p e).2 (.inl rfl)) (fun g hg' e => (hu g e).2 (.inr hg')), h1.trans hf (fun b hb e => by have := (hu b e).1; omega), hp, hg, ho, fun g hg' => ?_⟩
  rcases hn g hg' with h2 | h2
  · exact hu g h2
  · exact ⟨Nat.le_trans h1.size h2, fun hx => by have := hvl g hx; omega⟩

set_option maxHeartbeats 2000000 in
theorem wireBack (A : Option Addr) (c : Nat) (ops : List OpV) (t : List UInt8) (W : World) (hO : OpsC W A ops) (hv : volB ops ≤ 100000000) (ht : t.length ≤ 100000000) :
    CallsF Try.prog 9 [.slice A ops.length c, .string (sOf t)] W fun r w' => r = .bool true ∧ Fr no W w' := by
  refine callsF Try.func9 rfl rfl (by decide) rfl ?_
  repeat (first
    | refine stepF_ok tabOk [] (m := 400) rfl ?_
    | refine stepF_ok tabOk [] (m := 16) rfl ?_
    | refine stepF_ok tabOk [] (m := 3) rfl ?_
    | refine stepF_ok tabOk [] (m := 0) rfl ?_
    | refine ev_load rfl rfl tabOk rfl rfl (by assumption) ?_
    | refine ev_loadB rfl rfl tabOk rfl rfl (by assumption) (by rfl) ?_
    | refine ev_loadAggB rfl rfl tabOk rfl rfl (by assumption) (by rfl) ?_
    | refine ev_arith rfl rfl rfl rfl rfl (by simp only [lowK, hiK]; omega) ?_
    | refine ev_rem rfl rfl rfl rfl (by omega) (by omega) ?_
    | refine ev_quo rfl rfl rfl rfl (by omega) (by omega) (by simp only [hiK]; omega) ?_
    | refine ev_index rfl rfl tabOk rfl rfl rfl (by omega) (by omega) ?_
    | refine ev_indexA rfl rfl tabOk rfl rfl rfl (by omega) (by omega) rfl ?_
    | refine ev_convB rfl rfl tabOk rfl rfl rfl rfl ?_
    | refine ev_conv rfl rfl tabOk rfl rfl rfl (by simp only [lowK, hiK]; omega) ?_)
  refine ev_call rfl rfl rfl (newWriter _) (fun r w1 hr => ?_)
  obtain ⟨p, rfl, hp, hW, hf1⟩ := hr
  repeat (first
    | refine stepF_ok tabOk [] (m := 400) rfl ?_
    | refine stepF_ok tabOk [] (m := 16) rfl ?_
    | refine stepF_ok tabOk [] (m := 3) rfl ?_
    | refine stepF_ok tabOk [] (m := 0) rfl ?_
    | refine ev_load rfl rfl tabOk rfl rfl (by assumption) ?_
    | refine ev_loadB rfl rfl tabOk rfl rfl (by assumption) (by rfl) ?_
    | refine ev_loadAggB rfl rfl tabOk rfl rfl (by assumption) (by rfl) ?_
    | refine ev_arith rfl rfl rfl rfl rfl (by simp only [lowK, hiK]; omega) ?_
    | refine ev_rem rfl rfl rfl rfl (by omega) (by omega) ?_
    | refine ev_quo rfl rfl rfl rfl (by omega) (by omega) (by simp only [hiK]; omega) ?_
    | refine ev_index rfl rfl tabOk rfl rfl rfl (by omega) (by omega) ?_
    | refine ev_indexA rfl rfl tabOk rfl rfl rfl (by omega) (by omega) rfl ?_
    | refine ev_convB rfl rfl tabOk rfl rfl rfl rfl ?_
    | refine ev_conv rfl rfl tabOk rfl rfl rfl (by simp only [lowK, hiK]; omega) ?_)
  refine ev_call rfl rfl rfl (awake _) (fun r w2 hr => ?_)
  obtain ⟨rfl, hf2⟩ := hr
  repeat (first
    | refine stepF_ok tabOk [] (m := 400) rfl ?_
    | refine stepF_ok tabOk [] (m := 16) rfl ?_
    | refine stepF_ok tabOk [] (m := 3) rfl ?_
    | refine stepF_ok tabOk [] (m := 0) rfl ?_
    | refine ev_load rfl rfl tabOk rfl rfl (by assumption) ?_
    | refine ev_loadB rfl rfl tabOk rfl rfl (by assumption) (by rfl) ?_
    | refine ev_loadAggB rfl rfl tabOk rfl rfl (by assumption) (by rfl) ?_
    | refine ev_arith rfl rfl rfl rfl rfl (by simp only [lowK, hiK]; omega) ?_
    | refine ev_rem rfl rfl rfl rfl (by omega) (by omega) ?_
    | refine ev_quo rfl rfl rfl rfl (by omega) (by omega) (by simp only [hiK]; omega) ?_
    | refine ev_index rfl rfl tabOk rfl rfl rfl (by omega) (by omega) ?_
    | refine ev_indexA rfl rfl tabOk rfl rfl rfl (by omega) (by omega) rfl ?_
    | refine ev_convB rfl rfl tabOk rfl rfl rfl rfl ?_
    | refine ev_conv rfl rfl tabOk rfl rfl rfl (by simp only [lowK, hiK]; omega) ?_)
  refine ev_buildSlice tabOk rfl rfl rfl inf4 rfl rfl rfl (by simp) rfl (fun q w3 hq hb3 hf3 => ?_)
  have ho3 := own_of_blk (m := 0) (sz := 1) hb3 rfl (by omega)
  have hI : WB W w3 p (opsB (ops.take 0)) (.slice (some ⟨q, 0, none⟩) 0 0) 0 ((ops.take 0).map okV) := by
    refine ⟨_, (hW.fr0 hf2).fr0 hf3, (hf1.tr hf2).tr hf3, hp, fun g hg => (by cases hg), ho3, fun g hg => ?_⟩
    simp only [Value.ownBlock, Option.some.injEq] at hg
    subst hg
    have := hW.1.lt; have := hf1.size; have := hf2.size
    exact ⟨by omega, fun hx => by rcases hx with hx | hx <;> first | omega | cases hx⟩
  clear hW hf1 hf2 hf3 ho3 hb3
  repeat (first
    | refine stepF_ok tabOk [] (m := 400) rfl ?_
    | refine stepF_ok tabOk [] (m := 16) rfl ?_
    | refine stepF_ok tabOk [] (m := 3) rfl ?_
    | refine stepF_ok tabOk [] (m := 0) rfl ?_
    | refine ev_load rfl rfl tabOk rfl rfl (by assumption) ?_
    | refine ev_loadB rfl rfl tabOk rfl rfl (by assumption) (by rfl) ?_
    | refine ev_loadAggB rfl rfl tabOk rfl rfl (by assumption) (by rfl) ?_
    | refine ev_arith rfl rfl rfl rfl rfl (by simp only [lowK, hiK]; omega) ?_
    | refine ev_rem rfl rfl rfl rfl (by omega) (by omega) ?_
    | refine ev_quo rfl rfl rfl rfl (by omega) (by omega) (by simp only [hiK]; omega) ?_
    | refine ev_index rfl rfl tabOk rfl rfl rfl (by omega) (by omega) ?_
    | refine ev_indexA rfl rfl tabOk rfl rfl rfl (by omega) (by omega) rfl ?_
    | refine ev_convB rfl rfl tabOk rfl rfl rfl rfl ?_
    | refine ev_conv rfl rfl tabOk rfl rfl rfl (by simp only [lowK, hiK]; omega) ?_)
  refine ev_loop (α := Nat × Value) (fun y => [(0, .slice A ops.length c), (1, .string (sOf t)), (5, .pointer (some ⟨p, 0, none⟩)), (6, y.2), (7, .int .i64 y.1)])
    (fun y w' => y.1 ≤ ops.length ∧ WB W w' p (opsB (ops.take y.1)) y.2 y.1 ((ops.take y.1).map okV)) (fun y => ops.length - y.1) (0, .slice (some ⟨q, 0, none⟩) 0 0) ⟨rfl, rfl, rfl, rfl, rfl, trivial⟩ ⟨Nat.zero_le _, hI⟩ ?_
  clear hI
  rintro ⟨k, u⟩ w ⟨hk, hI⟩
  simp only at hk hI
  have hops : ops.length ≤ 100000000 := Nat.le_trans (volB_len ops) hv
  repeat (first
    | refine stepF_ok tabOk [] (m := 400) rfl ?_
    | refine stepF_ok tabOk [] (m := 16) rfl ?_
    | refine stepF_ok tabOk [] (m := 3) rfl ?_
    | refine stepF_ok tabOk [] (m := 0) rfl ?_
    | refine ev_load rfl rfl tabOk rfl rfl (by assumption) ?_
    | refine ev_loadB rfl rfl tabOk rfl rfl (by assumption) (by rfl) ?_
    | refine ev_loadAggB rfl rfl tabOk rfl rfl (by assumption) (by rfl) ?_
    | refine ev_arith rfl rfl rfl rfl rfl (by simp only [lowK, hiK]; omega) ?_
    | refine ev_rem rfl rfl rfl rfl (by omega) (by omega) ?_
    | refine ev_quo rfl rfl rfl rfl (by omega) (by omega) (by simp only [hiK]; omega) ?_
    | refine ev_index rfl rfl tabOk rfl rfl rfl (by omega) (by omega) ?_
    | refine ev_indexA rfl rfl tabOk rfl rfl rfl (by omega) (by omega) rfl ?_
    | refine ev_convB rfl rfl tabOk rfl rfl rfl rfl ?_
    | refine ev_conv rfl rfl tabOk rfl rfl rfl (by simp only [lowK, hiK]; omega) ?_)
  refine ev_condD rfl (fun hlt => ?_) (fun hlt => ?_)
  · have hk1 : k < ops.length := by omega
    have hx : ops[k]? = some ops[k] := List.getElem?_eq_getElem hk1
    generalize hxx : ops[k] = x at hx
    obtain ⟨v, hWr, hfW, hpW, hgW, hoU, huU⟩ := hI
    obtain ⟨b0, o0, Ar, cr, rfl, hag, hrow, hok, hrb, _⟩ := hO.at hfW hx
    have htk := opsB_take hx
    have hlen := opsB_len (ops.take k)
    have hlen2 := volB_take ops k
    have hvol := volB_get hx
    have hxl : x.row.length + x.text.length + 8 ≤ 100000000 := by have := hvol; unfold OpV.vol at this; omega
    obtain ⟨⟨hk1', hk2'⟩, ⟨hn1', hn2'⟩, ⟨hb1', hb2'⟩⟩ := hok
    repeat (first
      | refine stepF_ok tabOk [] (m := 400) rfl ?_
      | refine stepF_ok tabOk [] (m := 16) rfl ?_
      | refine stepF_ok tabOk [] (m := 3) rfl ?_
      | refine stepF_ok tabOk [] (m := 0) rfl ?_
      | refine ev_load rfl rfl tabOk rfl rfl (by assumption) ?_
      | refine ev_loadB rfl rfl tabOk rfl rfl (by assumption) (by rfl) ?_
      | refine ev_loadAggB rfl rfl tabOk rfl rfl (by assumption) (by rfl) ?_
      | refine ev_arith rfl rfl rfl rfl rfl (by simp only [lowK, hiK]; omega) ?_
      | refine ev_rem rfl rfl rfl rfl (by omega) (by omega) ?_
      | refine ev_quo rfl rfl rfl rfl (by omega) (by omega) (by simp only [hiK]; omega) ?_
      | refine ev_index rfl rfl tabOk rfl rfl rfl (by omega) (by omega) ?_
      | refine ev_indexA rfl rfl tabOk rfl rfl rfl (by omega) (by omega) rfl ?_
      | refine ev_convB rfl rfl tabOk rfl rfl rfl rfl ?_
      | refine ev_conv rfl rfl tabOk rfl rfl rfl (by simp only [lowK, hiK]; omega) ?_)
    refine ev_indexAddr rfl rfl tabOk rfl rfl rfl (by omega) (by omega) ?_
    refine ev_loadAgg rfl rfl tabOk rfl rfl rfl hag ?_
    refine ev_alloc rfl rfl inf45 (fun b w3 hb hB hf3 => ?_)
    refine ev_storeAgg tabOk rfl rfl rfl rfl rfl rfl hB rfl (fun w4 hB hf4 => ?_)
    have hob : ¬ WS p v b := fun h => by
      rcases h with h | h
      · have := hWr.1.lt; omega
      · have := Own.lt hWr.2.1 b h; omega
    have hWr4 : Wr w4 p v _ := (hWr.fr0 hf3).fr hf4 (fun e => hob (.inl e.symm)) (fun g hg e => hob (.inr (e ▸ hg)))
    have hfW4 : Fr no W w4 := (hfW.tr hf3).trans hf4 (fun q hq e => by have := hfW.size; omega)
    have hoU4 : Own w4 4 1 u k _ := (hoU.fr0 hf3).fr hf4 (fun g hg e => by have := Own.lt hoU g hg; omega)
    have hp4 := hWr.1.lt
    have hg4 : ∀ g, v.ownBlock = some g → g < w.heap.size := fun g hg => Own.lt hWr.2.1 g hg
    have hs4 : w.heap.size ≤ w4.heap.size := Nat.le_trans hf3.size hf4.size
    clear hWr hf3 hf4 hoU
    repeat (first
      | refine stepF_ok tabOk [] (m := 400) rfl ?_
      | refine stepF_ok tabOk [] (m := 16) rfl ?_
      | refine stepF_ok tabOk [] (m := 3) rfl ?_
      | refine stepF_ok tabOk [] (m := 0) rfl ?_
      | refine ev_load rfl rfl tabOk rfl rfl (by assumption) ?_
      | refine ev_loadB rfl rfl tabOk rfl rfl (by assumption) (by rfl) ?_
      | refine ev_loadAggB rfl rfl tabOk rfl rfl (by assumption) (by rfl) ?_
      | refine ev_arith rfl rfl rfl rfl rfl (by simp only [lowK, hiK]; omega) ?_
      | refine ev_rem rfl rfl rfl rfl (by omega) (by omega) ?_
      | refine ev_quo rfl rfl rfl rfl (by omega) (by omega) (by simp only [hiK]; omega) ?_
      | refine ev_index rfl rfl tabOk rfl rfl rfl (by omega) (by omega) ?_
      | refine ev_indexA rfl rfl tabOk rfl rfl rfl (by omega) (by omega) rfl ?_
      | refine ev_convB rfl rfl tabOk rfl rfl rfl rfl ?_
      | refine ev_conv rfl rfl tabOk rfl rfl rfl (by simp only [lowK, hiK]; omega) ?_)
    refine ev_call rfl rfl rfl (kindC _ _ hk1' hk2') (fun r w5 hr => ?_)
    obtain ⟨rfl, rfl⟩ := hr
    repeat (first
      | refine stepF_ok tabOk [2] (m := 400) rfl ?_
      | refine stepF_ok tabOk [2] (m := 16) rfl ?_
      | refine stepF_ok tabOk [2] (m := 3) rfl ?_
      | refine stepF_ok tabOk [2] (m := 0) rfl ?_
      | refine ev_load rfl rfl tabOk rfl rfl (by assumption) ?_
      | refine ev_loadB rfl rfl tabOk rfl rfl (by assumption) (by rfl) ?_
      | refine ev_loadAggB rfl rfl tabOk rfl rfl (by assumption) (by rfl) ?_
      | refine ev_arith rfl rfl rfl rfl rfl (by simp only [lowK, hiK]; omega) ?_
      | refine ev_rem rfl rfl rfl rfl (by omega) (by omega) ?_
      | refine ev_quo rfl rfl rfl rfl (by omega) (by omega) (by simp only [hiK]; omega) ?_
      | refine ev_index rfl rfl tabOk rfl rfl rfl (by omega) (by omega) ?_
      | refine ev_indexA rfl rfl tabOk rfl rfl rfl (by omega) (by omega) rfl ?_
      | refine ev_convB rfl rfl tabOk rfl rfl rfl rfl ?_
      | refine ev_conv rfl rfl tabOk rfl rfl rfl (by simp only [lowK, hiK]; omega) ?_)
    refine ev_cut (α := Unit) (fun _ => [(0, .slice (some ⟨b0, o0, none⟩) ops.length c), (1, .string (sOf t)), (5, .pointer (some ⟨p, 0, none⟩)), (6, u), (7, .int .i64 k), (9, okV x)])
      (fun _ w' => WB W w' p (opsB (ops.take (k + 1))) u k ((ops.take k).map okV)) ?_ ?_
    · repeat (first
        | refine stepF_ok tabOk [] (m := 400) rfl ?_
        | refine stepF_ok tabOk [] (m := 16) rfl ?_
        | refine stepF_ok tabOk [] (m := 3) rfl ?_
        | refine stepF_ok tabOk [] (m := 0) rfl ?_
        | refine ev_load rfl rfl tabOk rfl rfl (by assumption) ?_
        | refine ev_loadB rfl rfl tabOk rfl rfl (by assumption) (by rfl) ?_
        | refine ev_loadAggB rfl rfl tabOk rfl rfl (by assumption) (by rfl) ?_
        | refine ev_arith rfl rfl rfl rfl rfl (by simp only [lowK, hiK]; omega) ?_
        | refine ev_rem rfl rfl rfl rfl (by omega) (by omega) ?_
        | refine ev_quo rfl rfl rfl rfl (by omega) (by omega) (by simp only [hiK]; omega) ?_
        | refine ev_index rfl rfl tabOk rfl rfl rfl (by omega) (by omega) ?_
        | refine ev_indexA rfl rfl tabOk rfl rfl rfl (by omega) (by omega) rfl ?_
        | refine ev_convB rfl rfl tabOk rfl rfl rfl rfl ?_
        | refine ev_conv rfl rfl tabOk rfl rfl rfl (by simp only [lowK, hiK]; omega) ?_)
      refine ev_condD rfl (fun h0 => ?_) (fun h0 => ?_)
      · have hB0 : opB x = numB x.n x.bytes := by unfold opB; rw [if_pos h0]
        repeat (first
          | refine stepF_ok tabOk [] (m := 400) rfl ?_
          | refine stepF_ok tabOk [] (m := 16) rfl ?_
          | refine stepF_ok tabOk [] (m := 3) rfl ?_
          | refine stepF_ok tabOk [] (m := 0) rfl ?_
          | refine ev_load rfl rfl tabOk rfl rfl (by assumption) ?_
          | refine ev_loadB rfl rfl tabOk rfl rfl (by assumption) (by rfl) ?_
          | refine ev_loadAggB rfl rfl tabOk rfl rfl (by assumption) (by rfl) ?_
          | refine ev_arith rfl rfl rfl rfl rfl (by simp only [lowK, hiK]; omega) ?_
          | refine ev_rem rfl rfl rfl rfl (by omega) (by omega) ?_
          | refine ev_quo rfl rfl rfl rfl (by omega) (by omega) (by simp only [hiK]; omega) ?_
          | refine ev_index rfl rfl tabOk rfl rfl rfl (by omega) (by omega) ?_
          | refine ev_indexA rfl rfl tabOk rfl rfl rfl (by omega) (by omega) rfl ?_
          | refine ev_convB rfl rfl tabOk rfl rfl rfl rfl ?_
          | refine ev_conv rfl rfl tabOk rfl rfl rfl (by simp only [lowK, hiK]; omega) ?_)
        refine ev_call rfl rfl rfl (wrNumber p v _ _ _ _ hWr4 (by omega) hn1' hn2') (fun r w7 hr => ?_)
        obtain ⟨rfl, hr⟩ := hr
        have hI := WB.step hfW4 hpW hgW hoU4 huU hr
        rw [← hB0, ← htk] at hI
        repeat (first
          | refine stepF_ok tabOk [] (m := 400) rfl ?_
          | refine stepF_ok tabOk [] (m := 16) rfl ?_
          | refine stepF_ok tabOk [] (m := 3) rfl ?_
          | refine stepF_ok tabOk [] (m := 0) rfl ?_
          | refine ev_load rfl rfl tabOk rfl rfl (by assumption) ?_
          | refine ev_loadB rfl rfl tabOk rfl rfl (by assumption) (by rfl) ?_
          | refine ev_loadAggB rfl rfl tabOk rfl rfl (by assumption) (by rfl) ?_
          | refine ev_arith rfl rfl rfl rfl rfl (by simp only [lowK, hiK]; omega) ?_
          | refine ev_rem rfl rfl rfl rfl (by omega) (by omega) ?_
          | refine ev_quo rfl rfl rfl rfl (by omega) (by omega) (by simp only [hiK]; omega) ?_
          | refine ev_index rfl rfl tabOk rfl rfl rfl (by omega) (by omega) ?_
          | refine ev_indexA rfl rfl tabOk rfl rfl rfl (by omega) (by omega) rfl ?_
          | refine ev_convB rfl rfl tabOk rfl rfl rfl rfl ?_
          | refine ev_conv rfl rfl tabOk rfl rfl rfl (by simp only [lowK, hiK]; omega) ?_)
        refine ev_out () hI ⟨rfl, rfl, rfl, rfl, rfl, ?_, trivial⟩
        show some (Value.bool (decide (numE x.n x.bytes = 0))) = some (okV x)
        rw [okV, okB, if_pos h0]
      · have hok1 : okV x = .bool true := by rw [okV, okB, if_neg h0]
        repeat (first
          | refine stepF_ok tabOk [] (m := 400) rfl ?_
          | refine stepF_ok tabOk [] (m := 16) rfl ?_
          | refine stepF_ok tabOk [] (m := 3) rfl ?_
          | refine stepF_ok tabOk [] (m := 0) rfl ?_
          | refine ev_load rfl rfl tabOk rfl rfl (by assumption) ?_
          | refine ev_loadB rfl rfl tabOk rfl rfl (by assumption) (by rfl) ?_
          | refine ev_loadAggB rfl rfl tabOk rfl rfl (by assumption) (by rfl) ?_
          | refine ev_arith rfl rfl rfl rfl rfl (by simp only [lowK, hiK]; omega) ?_
          | refine ev_rem rfl rfl rfl rfl (by omega) (by omega) ?_
          | refine ev_quo rfl rfl rfl rfl (by omega) (by omega) (by simp only [hiK]; omega) ?_
          | refine ev_index rfl rfl tabOk rfl rfl rfl (by omega) (by omega) ?_
          | refine ev_indexA rfl rfl tabOk rfl rfl rfl (by omega) (by omega) rfl ?_
          | refine ev_convB rfl rfl tabOk rfl rfl rfl rfl ?_
          | refine ev_conv rfl rfl tabOk rfl rfl rfl (by simp only [lowK, hiK]; omega) ?_)
        refine ev_condD rfl (fun h1 => ?_) (fun h1 => ?_)
        · have hB1 : opB x = rowB x.row := by unfold opB; rw [if_neg h0, if_pos h1]
          repeat (first
            | refine stepF_ok tabOk [] (m := 400) rfl ?_
            | refine stepF_ok tabOk [] (m := 16) rfl ?_
            | refine stepF_ok tabOk [] (m := 3) rfl ?_
            | refine stepF_ok tabOk [] (m := 0) rfl ?_
            | refine ev_load rfl rfl tabOk rfl rfl (by assumption) ?_
            | refine ev_loadB rfl rfl tabOk rfl rfl (by assumption) (by rfl) ?_
            | refine ev_loadAggB rfl rfl tabOk rfl rfl (by assumption) (by rfl) ?_
            | refine ev_arith rfl rfl rfl rfl rfl (by simp only [lowK, hiK]; omega) ?_
            | refine ev_rem rfl rfl rfl rfl (by omega) (by omega) ?_
            | refine ev_quo rfl rfl rfl rfl (by omega) (by omega) (by simp only [hiK]; omega) ?_
            | refine ev_index rfl rfl tabOk rfl rfl rfl (by omega) (by omega) ?_
            | refine ev_indexA rfl rfl tabOk rfl rfl rfl (by omega) (by omega) rfl ?_
            | refine ev_convB rfl rfl tabOk rfl rfl rfl rfl ?_
            | refine ev_conv rfl rfl tabOk rfl rfl rfl (by simp only [lowK, hiK]; omega) ?_)
          refine ev_call rfl rfl rfl (wrRow p v _ Ar cr x.row _ hWr4 (by omega) (hrow.fr0 hfW4) (fun hne a ha => ?_)) (fun r w8 hr => ?_)
          · have := hrb hne a ha
            exact ⟨by omega, fun e => by have := hgW _ e; omega⟩
          have hI := WB.step hfW4 hpW hgW hoU4 huU hr
          rw [← hB1, ← htk] at hI
          repeat (first
            | refine stepF_ok tabOk [] (m := 400) rfl ?_
            | refine stepF_ok tabOk [] (m := 16) rfl ?_
            | refine stepF_ok tabOk [] (m := 3) rfl ?_
            | refine stepF_ok tabOk [] (m := 0) rfl ?_
            | refine ev_load rfl rfl tabOk rfl rfl (by assumption) ?_
            | refine ev_loadB rfl rfl tabOk rfl rfl (by assumption) (by rfl) ?_
            | refine ev_loadAggB rfl rfl tabOk rfl rfl (by assumption) (by rfl) ?_
            | refine ev_arith rfl rfl rfl rfl rfl (by simp only [lowK, hiK]; omega) ?_
            | refine ev_rem rfl rfl rfl rfl (by omega) (by omega) ?_
            | refine ev_quo rfl rfl rfl rfl (by omega) (by omega) (by simp only [hiK]; omega) ?_
            | refine ev_index rfl rfl tabOk rfl rfl rfl (by omega) (by omega) ?_
            | refine ev_indexA rfl rfl tabOk rfl rfl rfl (by omega) (by omega) rfl ?_
            | refine ev_convB rfl rfl tabOk rfl rfl rfl rfl ?_
            | refine ev_conv rfl rfl tabOk rfl rfl rfl (by simp only [lowK, hiK]; omega) ?_)
          refine ev_out () hI ⟨rfl, rfl, rfl, rfl, rfl, ?_, trivial⟩
          rw [hok1]; rfl
        · repeat (first
            | refine stepF_ok tabOk [] (m := 400) rfl ?_
            | refine stepF_ok tabOk [] (m := 16) rfl ?_
            | refine stepF_ok tabOk [] (m := 3) rfl ?_
            | refine stepF_ok tabOk [] (m := 0) rfl ?_
            | refine ev_load rfl rfl tabOk rfl rfl (by assumption) ?_
            | refine ev_loadB rfl rfl tabOk rfl rfl (by assumption) (by rfl) ?_
            | refine ev_loadAggB rfl rfl tabOk rfl rfl (by assumption) (by rfl) ?_
            | refine ev_arith rfl rfl rfl rfl rfl (by simp only [lowK, hiK]; omega) ?_
            | refine ev_rem rfl rfl rfl rfl (by omega) (by omega) ?_
            | refine ev_quo rfl rfl rfl rfl (by omega) (by omega) (by simp only [hiK]; omega) ?_
            | refine ev_index rfl rfl tabOk rfl rfl rfl (by omega) (by omega) ?_
            | refine ev_indexA rfl rfl tabOk rfl rfl rfl (by omega) (by omega) rfl ?_
            | refine ev_convB rfl rfl tabOk rfl rfl rfl rfl ?_
            | refine ev_conv rfl rfl tabOk rfl rfl rfl (by simp only [lowK, hiK]; omega) ?_)
          refine ev_condD rfl (fun h2 => ?_) (fun h2 => ?_)
          · have hB2 : opB x = x.text := by unfold opB; rw [if_neg h0, if_neg h1, if_pos h2]
            repeat (first
              | refine stepF_ok tabOk [] (m := 400) rfl ?_
              | refine stepF_ok tabOk [] (m := 16) rfl ?_
              | refine stepF_ok tabOk [] (m := 3) rfl ?_
              | refine stepF_ok tabOk [] (m := 0) rfl ?_
              | refine ev_load rfl rfl tabOk rfl rfl (by assumption) ?_
              | refine ev_loadB rfl rfl tabOk rfl rfl (by assumption) (by rfl) ?_
              | refine ev_loadAggB rfl rfl tabOk rfl rfl (by assumption) (by rfl) ?_
              | refine ev_arith rfl rfl rfl rfl rfl (by simp only [lowK, hiK]; omega) ?_
              | refine ev_rem rfl rfl rfl rfl (by omega) (by omega) ?_
              | refine ev_quo rfl rfl rfl rfl (by omega) (by omega) (by simp only [hiK]; omega) ?_
              | refine ev_index rfl rfl tabOk rfl rfl rfl (by omega) (by omega) ?_
              | refine ev_indexA rfl rfl tabOk rfl rfl rfl (by omega) (by omega) rfl ?_
              | refine ev_convB rfl rfl tabOk rfl rfl rfl rfl ?_
              | refine ev_conv rfl rfl tabOk rfl rfl rfl (by simp only [lowK, hiK]; omega) ?_)
            refine ev_call rfl rfl rfl (wrRaw p v _ x.text _ hWr4 (by omega)) (fun r w6 hr => ?_)
            have hI := WB.step hfW4 hpW hgW hoU4 huU hr
            rw [← hB2, ← htk] at hI
            repeat (first
              | refine stepF_ok tabOk [] (m := 400) rfl ?_
              | refine stepF_ok tabOk [] (m := 16) rfl ?_
              | refine stepF_ok tabOk [] (m := 3) rfl ?_
              | refine stepF_ok tabOk [] (m := 0) rfl ?_
              | refine ev_load rfl rfl tabOk rfl rfl (by assumption) ?_
              | refine ev_loadB rfl rfl tabOk rfl rfl (by assumption) (by rfl) ?_
              | refine ev_loadAggB rfl rfl tabOk rfl rfl (by assumption) (by rfl) ?_
              | refine ev_arith rfl rfl rfl rfl rfl (by simp only [lowK, hiK]; omega) ?_
              | refine ev_rem rfl rfl rfl rfl (by omega) (by omega) ?_
              | refine ev_quo rfl rfl rfl rfl (by omega) (by omega) (by simp only [hiK]; omega) ?_
              | refine ev_index rfl rfl tabOk rfl rfl rfl (by omega) (by omega) ?_
              | refine ev_indexA rfl rfl tabOk rfl rfl rfl (by omega) (by omega) rfl ?_
              | refine ev_convB rfl rfl tabOk rfl rfl rfl rfl ?_
              | refine ev_conv rfl rfl tabOk rfl rfl rfl (by simp only [lowK, hiK]; omega) ?_)
            refine ev_out () hI ⟨rfl, rfl, rfl, rfl, rfl, ?_, trivial⟩
            rw [hok1]; rfl
          · have hB3 : opB x = txtB x.text := by unfold opB; rw [if_neg h0, if_neg h1, if_neg h2]
            repeat (first
              | refine stepF_ok tabOk [] (m := 400) rfl ?_
              | refine stepF_ok tabOk [] (m := 16) rfl ?_
              | refine stepF_ok tabOk [] (m := 3) rfl ?_
              | refine stepF_ok tabOk [] (m := 0) rfl ?_
              | refine ev_load rfl rfl tabOk rfl rfl (by assumption) ?_
              | refine ev_loadB rfl rfl tabOk rfl rfl (by assumption) (by rfl) ?_
              | refine ev_loadAggB rfl rfl tabOk rfl rfl (by assumption) (by rfl) ?_
              | refine ev_arith rfl rfl rfl rfl rfl (by simp only [lowK, hiK]; omega) ?_
              | refine ev_rem rfl rfl rfl rfl (by omega) (by omega) ?_
              | refine ev_quo rfl rfl rfl rfl (by omega) (by omega) (by simp only [hiK]; omega) ?_
              | refine ev_index rfl rfl tabOk rfl rfl rfl (by omega) (by omega) ?_
              | refine ev_indexA rfl rfl tabOk rfl rfl rfl (by omega) (by omega) rfl ?_
              | refine ev_convB rfl rfl tabOk rfl rfl rfl rfl ?_
              | refine ev_conv rfl rfl tabOk rfl rfl rfl (by simp only [lowK, hiK]; omega) ?_)
            refine ev_call rfl rfl rfl (wrText p v _ x.text _ hWr4 (by omega) (by omega)) (fun r w6 hr => ?_)
            obtain ⟨rfl, hr⟩ := hr
            have hI := WB.step hfW4 hpW hgW hoU4 huU hr
            have hI : WB W w6 p (opsB (ops.take (k + 1))) u k ((ops.take k).map okV) := by rw [htk, hB3]; exact hI
            repeat (first
              | refine stepF_ok tabOk [] (m := 400) rfl ?_
              | refine stepF_ok tabOk [] (m := 16) rfl ?_
              | refine stepF_ok tabOk [] (m := 3) rfl ?_
              | refine stepF_ok tabOk [] (m := 0) rfl ?_
              | refine ev_load rfl rfl tabOk rfl rfl (by assumption) ?_
              | refine ev_loadB rfl rfl tabOk rfl rfl (by assumption) (by rfl) ?_
              | refine ev_loadAggB rfl rfl tabOk rfl rfl (by assumption) (by rfl) ?_
              | refine ev_arith rfl rfl rfl rfl rfl (by simp only [lowK, hiK]; omega) ?_
              | refine ev_rem rfl rfl rfl rfl (by omega) (by omega) ?_
              | refine ev_quo rfl rfl rfl rfl (by omega) (by omega) (by simp only [hiK]; omega) ?_
              | refine ev_index rfl rfl tabOk rfl rfl rfl (by omega) (by omega) ?_
              | refine ev_indexA rfl rfl tabOk rfl rfl rfl (by omega) (by omega) rfl ?_
              | refine ev_convB rfl rfl tabOk rfl rfl rfl rfl ?_
              | refine ev_conv rfl rfl tabOk rfl rfl rfl (by simp only [lowK, hiK]; omega) ?_)
            refine ev_out () hI ⟨rfl, rfl, rfl, rfl, rfl, ?_, trivial⟩
            rw [hok1]; rfl
    · rintro _ w6 hI
      obtain ⟨_, _, _, _, _, hoU6, _⟩ := id hI
      repeat (first
        | refine stepF_ok tabOk [] (m := 400) rfl ?_
        | refine stepF_ok tabOk [] (m := 16) rfl ?_
        | refine stepF_ok tabOk [] (m := 3) rfl ?_
        | refine stepF_ok tabOk [] (m := 0) rfl ?_
        | refine ev_load rfl rfl tabOk rfl rfl (by assumption) ?_
        | refine ev_loadB rfl rfl tabOk rfl rfl (by assumption) (by rfl) ?_
        | refine ev_loadAggB rfl rfl tabOk rfl rfl (by assumption) (by rfl) ?_
        | refine ev_arith rfl rfl rfl rfl rfl (by simp only [lowK, hiK]; omega) ?_
        | refine ev_rem rfl rfl rfl rfl (by omega) (by omega) ?_
        | refine ev_quo rfl rfl rfl rfl (by omega) (by omega) (by simp only [hiK]; omega) ?_
        | refine ev_index rfl rfl tabOk rfl rfl rfl (by omega) (by omega) ?_
        | refine ev_indexA rfl rfl tabOk rfl rfl rfl (by omega) (by omega) rfl ?_
        | refine ev_convB rfl rfl tabOk rfl rfl rfl rfl ?_
        | refine ev_conv rfl rfl tabOk rfl rfl rfl (by simp only [lowK, hiK]; omega) ?_)
      refine ev_append1 tabOk rfl rfl (fun _ => rfl) rfl rfl inf4 rfl (by omega) (fun _ => rfl) rfl rfl (by simp [Value.cells, okV]) (by simp [flatV, Value.cells, Value.oneCell', okV]) rfl hoU6 (by omega) (fun u2 w7 q7 ho hf hn => ?_)
      have hI7 := hI.put ho hf hn
      have e : (ops.take k).map okV ++ flatV [okV x] = (ops.take (k + 1)).map okV := by
        rw [List.take_succ_eq_append_getElem hk1, hxx]; simp [flatV, Value.cells, okV]
      rw [e] at hI7
      repeat (first
        | refine stepF_ok tabOk [] (m := 400) rfl ?_
        | refine stepF_ok tabOk [] (m := 16) rfl ?_
        | refine stepF_ok tabOk [] (m := 3) rfl ?_
        | refine stepF_ok tabOk [] (m := 0) rfl ?_
        | refine ev_load rfl rfl tabOk rfl rfl (by assumption) ?_
        | refine ev_loadB rfl rfl tabOk rfl rfl (by assumption) (by rfl) ?_
        | refine ev_loadAggB rfl rfl tabOk rfl rfl (by assumption) (by rfl) ?_
        | refine ev_arith rfl rfl rfl rfl rfl (by simp only [lowK, hiK]; omega) ?_
        | refine ev_rem rfl rfl rfl rfl (by omega) (by omega) ?_
        | refine ev_quo rfl rfl rfl rfl (by omega) (by omega) (by simp only [hiK]; omega) ?_
        | refine ev_index rfl rfl tabOk rfl rfl rfl (by omega) (by omega) ?_
        | refine ev_indexA rfl rfl tabOk rfl rfl rfl (by omega) (by omega) rfl ?_
        | refine ev_convB rfl rfl tabOk rfl rfl rfl rfl ?_
        | refine ev_conv rfl rfl tabOk rfl rfl rfl (by simp only [lowK, hiK]; omega) ?_)
      exact ev_next (k + 1, u2) (by simp only; omega) ⟨by simp only; omega, hI7⟩ ⟨rfl, rfl, rfl, rfl, rfl, trivial⟩
  · have hk' : k = ops.length := by omega
    subst hk'
    rw [List.take_length] at hI
    simp only at hlt
    obtain ⟨v, hWr, hfW, hpW, hgW, hoU, huU⟩ := hI
    repeat (first
      | refine stepF_ok tabOk [] (m := 400) rfl ?_
      | refine stepF_ok tabOk [] (m := 16) rfl ?_
      | refine stepF_ok tabOk [] (m := 3) rfl ?_
      | refine stepF_ok tabOk [] (m := 0) rfl ?_
      | refine ev_load rfl rfl tabOk rfl rfl (by assumption) ?_
      | refine ev_loadB rfl rfl tabOk rfl rfl (by assumption) (by rfl) ?_
      | refine ev_loadAggB rfl rfl tabOk rfl rfl (by assumption) (by rfl) ?_
      | refine ev_arith rfl rfl rfl rfl rfl (by simp only [lowK, hiK]; omega) ?_
      | refine ev_rem rfl rfl rfl rfl (by omega) (by omega) ?_
      | refine ev_quo rfl rfl rfl rfl (by omega) (by omega) (by simp only [hiK]; omega) ?_
      | refine ev_index rfl rfl tabOk rfl rfl rfl (by omega) (by omega) ?_
      | refine ev_indexA rfl rfl tabOk rfl rfl rfl (by omega) (by omega) rfl ?_
      | refine ev_convB rfl rfl tabOk rfl rfl rfl rfl ?_
      | refine ev_conv rfl rfl tabOk rfl rfl rfl (by simp only [lowK, hiK]; omega) ?_)
    refine ev_call rfl rfl rfl (wrBytes p v _ _ hWr) (fun r w8 hr => ?_)
    obtain ⟨rfl, rfl⟩ := hr
    repeat (first
      | refine stepF_ok tabOk [] (m := 400) rfl ?_
      | refine stepF_ok tabOk [] (m := 16) rfl ?_
      | refine stepF_ok tabOk [] (m := 3) rfl ?_
      | refine stepF_ok tabOk [] (m := 0) rfl ?_
      | refine ev_load rfl rfl tabOk rfl rfl (by assumption) ?_
      | refine ev_loadB rfl rfl tabOk rfl rfl (by assumption) (by rfl) ?_
      | refine ev_loadAggB rfl rfl tabOk rfl rfl (by assumption) (by rfl) ?_
      | refine ev_arith rfl rfl rfl rfl rfl (by simp only [lowK, hiK]; omega) ?_
      | refine ev_rem rfl rfl rfl rfl (by omega) (by omega) ?_
      | refine ev_quo rfl rfl rfl rfl (by omega) (by omega) (by simp only [hiK]; omega) ?_
      | refine ev_index rfl rfl tabOk rfl rfl rfl (by omega) (by omega) ?_
      | refine ev_indexA rfl rfl tabOk rfl rfl rfl (by omega) (by omega) rfl ?_
      | refine ev_convB rfl rfl tabOk rfl rfl rfl rfl ?_
      | refine ev_conv rfl rfl tabOk rfl rfl rfl (by simp only [lowK, hiK]; omega) ?_)
    have hlen := opsB_len ops
    refine ev_concat rfl rfl rfl rfl (by omega) ?_
    repeat (first
      | refine stepF_ok tabOk [] (m := 400) rfl ?_
      | refine stepF_ok tabOk [] (m := 16) rfl ?_
      | refine stepF_ok tabOk [] (m := 3) rfl ?_
      | refine stepF_ok tabOk [] (m := 0) rfl ?_
      | refine ev_load rfl rfl tabOk rfl rfl (by assumption) ?_
      | refine ev_loadB rfl rfl tabOk rfl rfl (by assumption) (by rfl) ?_
      | refine ev_loadAggB rfl rfl tabOk rfl rfl (by assumption) (by rfl) ?_
      | refine ev_arith rfl rfl rfl rfl rfl (by simp only [lowK, hiK]; omega) ?_
      | refine ev_rem rfl rfl rfl rfl (by omega) (by omega) ?_
      | refine ev_quo rfl rfl rfl rfl (by omega) (by omega) (by simp only [hiK]; omega) ?_
      | refine ev_index rfl rfl tabOk rfl rfl rfl (by omega) (by omega) ?_
      | refine ev_indexA rfl rfl tabOk rfl rfl rfl (by omega) (by omega) rfl ?_
      | refine ev_convB rfl rfl tabOk rfl rfl rfl rfl ?_
      | refine ev_conv rfl rfl tabOk rfl rfl rfl (by simp only [lowK, hiK]; omega) ?_)
    refine ev_call rfl rfl rfl (newReader (opsB ops ++ t) _) (fun r w9 hr => ?_)
    obtain ⟨q1, rfl, hq1, hR9, hf9⟩ := hr
    have hoU9 := hoU.fr0 hf9
    have hfW9 := hfW.tr hf9
    have huq : ∀ g, u.ownBlock = some g → ¬ one q1 g := fun g hg e => by
      have h1 := Own.lt hoU g hg
      have : g = q1 := e
      omega
    have hq1W : W.heap.size ≤ q1 := by have := hfW.size; omega
    clear hWr hfW hoU huU hgW hf9
    obtain ⟨Au, cu, rfl, _, _⟩ := hoU9.slice
    have hsl : (opsB ops ++ t).length = (opsB ops).length + t.length := List.length_append
    repeat (first
      | refine stepF_ok tabOk [] (m := 400) rfl ?_
      | refine stepF_ok tabOk [] (m := 16) rfl ?_
      | refine stepF_ok tabOk [] (m := 3) rfl ?_
      | refine stepF_ok tabOk [] (m := 0) rfl ?_
      | refine ev_load rfl rfl tabOk rfl rfl (by assumption) ?_
      | refine ev_loadB rfl rfl tabOk rfl rfl (by assumption) (by rfl) ?_
      | refine ev_loadAggB rfl rfl tabOk rfl rfl (by assumption) (by rfl) ?_
      | refine ev_arith rfl rfl rfl rfl rfl (by simp only [lowK, hiK]; omega) ?_
      | refine ev_rem rfl rfl rfl rfl (by omega) (by omega) ?_
      | refine ev_quo rfl rfl rfl rfl (by omega) (by omega) (by simp only [hiK]; omega) ?_
      | refine ev_index rfl rfl tabOk rfl rfl rfl (by omega) (by omega) ?_
      | refine ev_indexA rfl rfl tabOk rfl rfl rfl (by omega) (by omega) rfl ?_
      | refine ev_convB rfl rfl tabOk rfl rfl rfl rfl ?_
      | refine ev_conv rfl rfl tabOk rfl rfl rfl (by simp only [lowK, hiK]; omega) ?_)
    refine ev_loop (α := Nat) (fun k => [(0, .slice A ops.length c), (1, .string (sOf t)), (6, .slice Au ops.length cu), (10, .pointer (some ⟨q1, 0, none⟩)), (11, .int .i64 k)])
      (fun k w' => k ≤ ops.length ∧ Rd w' q1 (opsB ops ++ t) (opsB (ops.take k)).length ∧ Own w' 4 1 (.slice Au ops.length cu) ops.length (ops.map okV) ∧ Fr no W w') (fun k => ops.length - k) 0 ⟨rfl, rfl, rfl, rfl, rfl, trivial⟩ ⟨Nat.zero_le _, hR9, hoU9, hfW9⟩ ?_
    clear hR9 hoU9 hfW9 hk hlt hq
    rintro k w ⟨hk, hR, hoU, hfW⟩
    repeat (first
      | refine stepF_ok tabOk [] (m := 400) rfl ?_
      | refine stepF_ok tabOk [] (m := 16) rfl ?_
      | refine stepF_ok tabOk [] (m := 3) rfl ?_
      | refine stepF_ok tabOk [] (m := 0) rfl ?_
      | refine ev_load rfl rfl tabOk rfl rfl (by assumption) ?_
      | refine ev_loadB rfl rfl tabOk rfl rfl (by assumption) (by rfl) ?_
      | refine ev_loadAggB rfl rfl tabOk rfl rfl (by assumption) (by rfl) ?_
      | refine ev_arith rfl rfl rfl rfl rfl (by simp only [lowK, hiK]; omega) ?_
      | refine ev_rem rfl rfl rfl rfl (by omega) (by omega) ?_
      | refine ev_quo rfl rfl rfl rfl (by omega) (by omega) (by simp only [hiK]; omega) ?_
      | refine ev_index rfl rfl tabOk rfl rfl rfl (by omega) (by omega) ?_
      | refine ev_indexA rfl rfl tabOk rfl rfl rfl (by omega) (by omega) rfl ?_
      | refine ev_convB rfl rfl tabOk rfl rfl rfl rfl ?_
      | refine ev_conv rfl rfl tabOk rfl rfl rfl (by simp only [lowK, hiK]; omega) ?_)
    refine ev_condD rfl (fun hlt => ?_) (fun hlt => ?_)
    · have hk1 : k < ops.length := by omega
      have hx : ops[k]? = some ops[k] := List.getElem?_eq_getElem hk1
      generalize ops[k] = x at hx
      obtain ⟨b0, o0, Ar, cr, rfl, hag, hrow, hok, hrb, _⟩ := hO.at hfW hx
      have htk := opsB_take hx
      have hsp := opsB_split hx t
      have hlk : (opsB (ops.take (k + 1))).length = (opsB (ops.take k)).length + (opB x).length := by rw [htk, List.length_append]
      have hle : (opsB (ops.take (k + 1))).length ≤ (opsB ops).length := by
        have h1 := opsB_split hx []
        have h2 := congrArg List.length h1
        simp only [List.length_append, List.length_nil] at h2
        omega
      have hvol := volB_get hx
      have hxl : x.row.length + x.text.length + 8 ≤ 100000000 := by have := hvol; unfold OpV.vol at this; omega
      obtain ⟨⟨hk1', hk2'⟩, ⟨hn1', hn2'⟩, ⟨hb1', hb2'⟩⟩ := hok
      repeat (first
        | refine stepF_ok tabOk [] (m := 400) rfl ?_
        | refine stepF_ok tabOk [] (m := 16) rfl ?_
        | refine stepF_ok tabOk [] (m := 3) rfl ?_
        | refine stepF_ok tabOk [] (m := 0) rfl ?_
        | refine ev_load rfl rfl tabOk rfl rfl (by assumption) ?_
        | refine ev_loadB rfl rfl tabOk rfl rfl (by assumption) (by rfl) ?_
        | refine ev_loadAggB rfl rfl tabOk rfl rfl (by assumption) (by rfl) ?_
        | refine ev_arith rfl rfl rfl rfl rfl (by simp only [lowK, hiK]; omega) ?_
        | refine ev_rem rfl rfl rfl rfl (by omega) (by omega) ?_
        | refine ev_quo rfl rfl rfl rfl (by omega) (by omega) (by simp only [hiK]; omega) ?_
        | refine ev_index rfl rfl tabOk rfl rfl rfl (by omega) (by omega) ?_
        | refine ev_indexA rfl rfl tabOk rfl rfl rfl (by omega) (by omega) rfl ?_
        | refine ev_convB rfl rfl tabOk rfl rfl rfl rfl ?_
        | refine ev_conv rfl rfl tabOk rfl rfl rfl (by simp only [lowK, hiK]; omega) ?_)
      refine ev_indexAddr rfl rfl tabOk rfl rfl rfl (by omega) (by omega) ?_
      refine ev_loadAgg rfl rfl tabOk rfl rfl rfl hag ?_
      refine ev_alloc rfl rfl inf45 (fun b w3 hb hB hf3 => ?_)
      refine ev_storeAgg tabOk rfl rfl rfl rfl rfl rfl hB rfl (fun w4 hB hf4 => ?_)
      have hqlt := hR.lt
      have hoUl := Own.lt hoU
      have hR4 := (hR.fr0 hf3).fr hf4 (fun z => by omega)
      have hoU4 := (hoU.fr0 hf3).fr hf4 (fun g hg z => by have := hoUl g hg; omega)
      have hfW4 : Fr no W w4 := (hfW.tr hf3).trans hf4 (fun q hq e => by have := hfW.size; omega)
      have hob : ¬ one q1 b := fun z => by have : b = q1 := z; omega
      have hs4 : w.heap.size ≤ w4.heap.size := Nat.le_trans hf3.size hf4.size
      clear hR hf3 hf4 hoU
      repeat (first
        | refine stepF_ok tabOk [] (m := 400) rfl ?_
        | refine stepF_ok tabOk [] (m := 16) rfl ?_
        | refine stepF_ok tabOk [] (m := 3) rfl ?_
        | refine stepF_ok tabOk [] (m := 0) rfl ?_
        | refine ev_load rfl rfl tabOk rfl rfl (by assumption) ?_
        | refine ev_loadB rfl rfl tabOk rfl rfl (by assumption) (by rfl) ?_
        | refine ev_loadAggB rfl rfl tabOk rfl rfl (by assumption) (by rfl) ?_
        | refine ev_arith rfl rfl rfl rfl rfl (by simp only [lowK, hiK]; omega) ?_
        | refine ev_rem rfl rfl rfl rfl (by omega) (by omega) ?_
        | refine ev_quo rfl rfl rfl rfl (by omega) (by omega) (by simp only [hiK]; omega) ?_
        | refine ev_index rfl rfl tabOk rfl rfl rfl (by omega) (by omega) ?_
        | refine ev_indexA rfl rfl tabOk rfl rfl rfl (by omega) (by omega) rfl ?_
        | refine ev_convB rfl rfl tabOk rfl rfl rfl rfl ?_
        | refine ev_conv rfl rfl tabOk rfl rfl rfl (by simp only [lowK, hiK]; omega) ?_)
      refine ev_call rfl rfl rfl (kindC _ _ hk1' hk2') (fun r w5 hr => ?_)
      obtain ⟨rfl, rfl⟩ := hr
      repeat (first
        | refine stepF_ok tabOk [2] (m := 400) rfl ?_
        | refine stepF_ok tabOk [2] (m := 16) rfl ?_
        | refine stepF_ok tabOk [2] (m := 3) rfl ?_
        | refine stepF_ok tabOk [2] (m := 0) rfl ?_
        | refine ev_load rfl rfl tabOk rfl rfl (by assumption) ?_
        | refine ev_loadB rfl rfl tabOk rfl rfl (by assumption) (by rfl) ?_
        | refine ev_loadAggB rfl rfl tabOk rfl rfl (by assumption) (by rfl) ?_
        | refine ev_arith rfl rfl rfl rfl rfl (by simp only [lowK, hiK]; omega) ?_
        | refine ev_rem rfl rfl rfl rfl (by omega) (by omega) ?_
        | refine ev_quo rfl rfl rfl rfl (by omega) (by omega) (by simp only [hiK]; omega) ?_
        | refine ev_index rfl rfl tabOk rfl rfl rfl (by omega) (by omega) ?_
        | refine ev_indexA rfl rfl tabOk rfl rfl rfl (by omega) (by omega) rfl ?_
        | refine ev_convB rfl rfl tabOk rfl rfl rfl rfl ?_
        | refine ev_conv rfl rfl tabOk rfl rfl rfl (by simp only [lowK, hiK]; omega) ?_)
      have hcell : ∀ w', Own w' 4 1 (.slice Au ops.length cu) ops.length (ops.map okV) → ∃ bu ou, Au = some ⟨bu, ou, none⟩ ∧ w'.cell? ⟨bu, ou + (k : Int).toNat * 1, none⟩ = some (okV x) := fun w' ho => by
        obtain ⟨A', c', e1, hc, _⟩ := ho.slice
        cases e1
        obtain ⟨bu, ou, rfl, h2⟩ := hc k (okV x) (by rw [List.getElem?_map, hx]; rfl)
        exact ⟨bu, ou, rfl, by rw [Int.toNat_natCast, Nat.mul_one]; exact h2⟩
      refine ev_cut (α := Unit) (fun _ => [(0, .slice (some ⟨b0, o0, none⟩) ops.length c), (1, .string (sOf t)), (6, .slice Au ops.length cu), (10, .pointer (some ⟨q1, 0, none⟩)), (11, .int .i64 k), (13, .bool true)])
        (fun _ w' => Rd w' q1 (opsB ops ++ t) (opsB (ops.take (k + 1))).length ∧ Own w' 4 1 (.slice Au ops.length cu) ops.length (ops.map okV) ∧ Fr no W w') ?_ ?_
      · repeat (first
          | refine stepF_ok tabOk [] (m := 400) rfl ?_
          | refine stepF_ok tabOk [] (m := 16) rfl ?_
          | refine stepF_ok tabOk [] (m := 3) rfl ?_
          | refine stepF_ok tabOk [] (m := 0) rfl ?_
          | refine ev_load rfl rfl tabOk rfl rfl (by assumption) ?_
          | refine ev_loadB rfl rfl tabOk rfl rfl (by assumption) (by rfl) ?_
          | refine ev_loadAggB rfl rfl tabOk rfl rfl (by assumption) (by rfl) ?_
          | refine ev_arith rfl rfl rfl rfl rfl (by simp only [lowK, hiK]; omega) ?_
          | refine ev_rem rfl rfl rfl rfl (by omega) (by omega) ?_
          | refine ev_quo rfl rfl rfl rfl (by omega) (by omega) (by simp only [hiK]; omega) ?_
          | refine ev_index rfl rfl tabOk rfl rfl rfl (by omega) (by omega) ?_
          | refine ev_indexA rfl rfl tabOk rfl rfl rfl (by omega) (by omega) rfl ?_
          | refine ev_convB rfl rfl tabOk rfl rfl rfl rfl ?_
          | refine ev_conv rfl rfl tabOk rfl rfl rfl (by simp only [lowK, hiK]; omega) ?_)
        refine ev_condD rfl (fun h0 => ?_) (fun h0 => ?_)
        · have hB0 : opB x = numB x.n x.bytes := by unfold opB; rw [if_pos h0]
          have hok0 : okV x = .bool (decide (numE x.n x.bytes = 0)) := by rw [okV, okB, if_pos h0]
          repeat (first
            | refine stepF_ok tabOk [] (m := 400) rfl ?_
            | refine stepF_ok tabOk [] (m := 16) rfl ?_
            | refine stepF_ok tabOk [] (m := 3) rfl ?_
            | refine stepF_ok tabOk [] (m := 0) rfl ?_
            | refine ev_load rfl rfl tabOk rfl rfl (by assumption) ?_
            | refine ev_loadB rfl rfl tabOk rfl rfl (by assumption) (by rfl) ?_
            | refine ev_loadAggB rfl rfl tabOk rfl rfl (by assumption) (by rfl) ?_
            | refine ev_arith rfl rfl rfl rfl rfl (by simp only [lowK, hiK]; omega) ?_
            | refine ev_rem rfl rfl rfl rfl (by omega) (by omega) ?_
            | refine ev_quo rfl rfl rfl rfl (by omega) (by omega) (by simp only [hiK]; omega) ?_
            | refine ev_index rfl rfl tabOk rfl rfl rfl (by omega) (by omega) ?_
            | refine ev_indexA rfl rfl tabOk rfl rfl rfl (by omega) (by omega) rfl ?_
            | refine ev_convB rfl rfl tabOk rfl rfl rfl rfl ?_
            | refine ev_conv rfl rfl tabOk rfl rfl rfl (by simp only [lowK, hiK]; omega) ?_)
          refine ev_call rfl rfl rfl (refNumber _ _ _ hn1' hn2') (fun r w6 hr => ?_)
          obtain ⟨rfl, hf6⟩ := hr
          have hR6 := hR4.fr0 hf6
          have hoU6 := hoU4.fr0 hf6
          have hB6 := (‹Blk w5 b _ _›).fr0 hf6
          obtain ⟨bu, ou, rfl, hc6⟩ := hcell _ hoU6
          have hE3 : numE x.n x.bytes = 0 ∨ numE x.n x.bytes = 1 ∨ numE x.n x.bytes = 10 := by unfold numE; split <;> (try split) <;> simp
          rw [hok0] at hc6
          rcases hE3 with hE | hE | hE
          · rw [hE] at hc6 ⊢
            obtain ⟨e1, e2, e3⟩ := back_num (opsB (ops.take k)) _ hE hn2' (hsp.trans (by rw [hB0]))
            replace e3 := e3.trans (show _ = (opsB (ops.take (k + 1))).length by rw [hlk, hB0])
            repeat (first
              | refine stepF_ok tabOk [] (m := 400) rfl ?_
              | refine stepF_ok tabOk [] (m := 16) rfl ?_
              | refine stepF_ok tabOk [] (m := 3) rfl ?_
              | refine stepF_ok tabOk [] (m := 0) rfl ?_
              | refine ev_load rfl rfl tabOk rfl rfl (by assumption) ?_
              | refine ev_loadB rfl rfl tabOk rfl rfl (by assumption) (by rfl) ?_
              | refine ev_loadAggB rfl rfl tabOk rfl rfl (by assumption) (by rfl) ?_
              | refine ev_arith rfl rfl rfl rfl rfl (by simp only [lowK, hiK]; omega) ?_
              | refine ev_rem rfl rfl rfl rfl (by omega) (by omega) ?_
              | refine ev_quo rfl rfl rfl rfl (by omega) (by omega) (by simp only [hiK]; omega) ?_
              | refine ev_index rfl rfl tabOk rfl rfl rfl (by omega) (by omega) ?_
              | refine ev_indexA rfl rfl tabOk rfl rfl rfl (by omega) (by omega) rfl ?_
              | refine ev_convB rfl rfl tabOk rfl rfl rfl rfl ?_
              | refine ev_conv rfl rfl tabOk rfl rfl rfl (by simp only [lowK, hiK]; omega) ?_)
            refine ev_indexAddr rfl rfl tabOk rfl rfl rfl (by omega) (by omega) ?_
            repeat (first
              | refine stepF_ok tabOk [] (m := 400) rfl ?_
              | refine stepF_ok tabOk [] (m := 16) rfl ?_
              | refine stepF_ok tabOk [] (m := 3) rfl ?_
              | refine stepF_ok tabOk [] (m := 0) rfl ?_
              | refine ev_load rfl rfl tabOk rfl rfl (by assumption) ?_
              | refine ev_loadB rfl rfl tabOk rfl rfl (by assumption) (by rfl) ?_
              | refine ev_loadAggB rfl rfl tabOk rfl rfl (by assumption) (by rfl) ?_
              | refine ev_arith rfl rfl rfl rfl rfl (by simp only [lowK, hiK]; omega) ?_
              | refine ev_rem rfl rfl rfl rfl (by omega) (by omega) ?_
              | refine ev_quo rfl rfl rfl rfl (by omega) (by omega) (by simp only [hiK]; omega) ?_
              | refine ev_index rfl rfl tabOk rfl rfl rfl (by omega) (by omega) ?_
              | refine ev_indexA rfl rfl tabOk rfl rfl rfl (by omega) (by omega) rfl ?_
              | refine ev_convB rfl rfl tabOk rfl rfl rfl rfl ?_
              | refine ev_conv rfl rfl tabOk rfl rfl rfl (by simp only [lowK, hiK]; omega) ?_)
            refine ev_indexAddr rfl rfl tabOk rfl rfl rfl (by omega) (by omega) ?_
            repeat (first
              | refine stepF_ok tabOk [] (m := 400) rfl ?_
              | refine stepF_ok tabOk [] (m := 16) rfl ?_
              | refine stepF_ok tabOk [] (m := 3) rfl ?_
              | refine stepF_ok tabOk [] (m := 0) rfl ?_
              | refine ev_load rfl rfl tabOk rfl rfl (by assumption) ?_
              | refine ev_loadB rfl rfl tabOk rfl rfl (by assumption) (by rfl) ?_
              | refine ev_loadAggB rfl rfl tabOk rfl rfl (by assumption) (by rfl) ?_
              | refine ev_arith rfl rfl rfl rfl rfl (by simp only [lowK, hiK]; omega) ?_
              | refine ev_rem rfl rfl rfl rfl (by omega) (by omega) ?_
              | refine ev_quo rfl rfl rfl rfl (by omega) (by omega) (by simp only [hiK]; omega) ?_
              | refine ev_index rfl rfl tabOk rfl rfl rfl (by omega) (by omega) ?_
              | refine ev_indexA rfl rfl tabOk rfl rfl rfl (by omega) (by omega) rfl ?_
              | refine ev_convB rfl rfl tabOk rfl rfl rfl rfl ?_
              | refine ev_conv rfl rfl tabOk rfl rfl rfl (by simp only [lowK, hiK]; omega) ?_)
            refine ev_call rfl rfl rfl (rdNumber q1 _ _ _ _ hR6 (by omega) (by omega)) (fun r w7 hr => ?_)
            obtain ⟨rfl, hR7, hf7⟩ := hr
            rw [e1, e2]
            rw [e3] at hR7
            have hB7 := hB6.fr hf7 hob
            repeat (first
              | refine stepF_ok tabOk [] (m := 400) rfl ?_
              | refine stepF_ok tabOk [] (m := 16) rfl ?_
              | refine stepF_ok tabOk [] (m := 3) rfl ?_
              | refine stepF_ok tabOk [] (m := 0) rfl ?_
              | refine ev_load rfl rfl tabOk rfl rfl (by assumption) ?_
              | refine ev_loadB rfl rfl tabOk rfl rfl (by assumption) (by rfl) ?_
              | refine ev_loadAggB rfl rfl tabOk rfl rfl (by assumption) (by rfl) ?_
              | refine ev_arith rfl rfl rfl rfl rfl (by simp only [lowK, hiK]; omega) ?_
              | refine ev_rem rfl rfl rfl rfl (by omega) (by omega) ?_
              | refine ev_quo rfl rfl rfl rfl (by omega) (by omega) (by simp only [hiK]; omega) ?_
              | refine ev_index rfl rfl tabOk rfl rfl rfl (by omega) (by omega) ?_
              | refine ev_indexA rfl rfl tabOk rfl rfl rfl (by omega) (by omega) rfl ?_
              | refine ev_convB rfl rfl tabOk rfl rfl rfl rfl ?_
              | refine ev_conv rfl rfl tabOk rfl rfl rfl (by simp only [lowK, hiK]; omega) ?_)
            refine ev_guardD rfl rfl (fun _ => ?_) (fun z => absurd rfl z)
            repeat (first
              | refine stepF_ok tabOk [] (m := 400) rfl ?_
              | refine stepF_ok tabOk [] (m := 16) rfl ?_
              | refine stepF_ok tabOk [] (m := 3) rfl ?_
              | refine stepF_ok tabOk [] (m := 0) rfl ?_
              | refine ev_load rfl rfl tabOk rfl rfl (by assumption) ?_
              | refine ev_loadB rfl rfl tabOk rfl rfl (by assumption) (by rfl) ?_
              | refine ev_loadAggB rfl rfl tabOk rfl rfl (by assumption) (by rfl) ?_
              | refine ev_arith rfl rfl rfl rfl rfl (by simp only [lowK, hiK]; omega) ?_
              | refine ev_rem rfl rfl rfl rfl (by omega) (by omega) ?_
              | refine ev_quo rfl rfl rfl rfl (by omega) (by omega) (by simp only [hiK]; omega) ?_
              | refine ev_index rfl rfl tabOk rfl rfl rfl (by omega) (by omega) ?_
              | refine ev_indexA rfl rfl tabOk rfl rfl rfl (by omega) (by omega) rfl ?_
              | refine ev_convB rfl rfl tabOk rfl rfl rfl rfl ?_
              | refine ev_conv rfl rfl tabOk rfl rfl rfl (by simp only [lowK, hiK]; omega) ?_)
            exact ev_out () ⟨hR7, hoU6.fr hf7 huq, (hfW4.tr hf6).trans hf7 (fun u hu z => by have : u = q1 := z; omega)⟩ ⟨rfl, rfl, rfl, rfl, rfl, rfl, trivial⟩
          all_goals
            rw [hE] at hc6 ⊢
            have hlz : (opsB (ops.take (k + 1))).length = (opsB (ops.take k)).length := by rw [hlk, hB0, numB_bad (by omega)]; rfl
            rw [← hlz] at hR6
            repeat (first
              | refine stepF_ok tabOk [] (m := 400) rfl ?_
              | refine stepF_ok tabOk [] (m := 16) rfl ?_
              | refine stepF_ok tabOk [] (m := 3) rfl ?_
              | refine stepF_ok tabOk [] (m := 0) rfl ?_
              | refine ev_load rfl rfl tabOk rfl rfl (by assumption) ?_
              | refine ev_loadB rfl rfl tabOk rfl rfl (by assumption) (by rfl) ?_
              | refine ev_loadAggB rfl rfl tabOk rfl rfl (by assumption) (by rfl) ?_
              | refine ev_arith rfl rfl rfl rfl rfl (by simp only [lowK, hiK]; omega) ?_
              | refine ev_rem rfl rfl rfl rfl (by omega) (by omega) ?_
              | refine ev_quo rfl rfl rfl rfl (by omega) (by omega) (by simp only [hiK]; omega) ?_
              | refine ev_index rfl rfl tabOk rfl rfl rfl (by omega) (by omega) ?_
              | refine ev_indexA rfl rfl tabOk rfl rfl rfl (by omega) (by omega) rfl ?_
              | refine ev_convB rfl rfl tabOk rfl rfl rfl rfl ?_
              | refine ev_conv rfl rfl tabOk rfl rfl rfl (by simp only [lowK, hiK]; omega) ?_)
            refine ev_indexAddr rfl rfl tabOk rfl rfl rfl (by omega) (by omega) ?_
            repeat (first
              | refine stepF_ok tabOk [] (m := 400) rfl ?_
              | refine stepF_ok tabOk [] (m := 16) rfl ?_
              | refine stepF_ok tabOk [] (m := 3) rfl ?_
              | refine stepF_ok tabOk [] (m := 0) rfl ?_
              | refine ev_load rfl rfl tabOk rfl rfl (by assumption) ?_
              | refine ev_loadB rfl rfl tabOk rfl rfl (by assumption) (by rfl) ?_
              | refine ev_loadAggB rfl rfl tabOk rfl rfl (by assumption) (by rfl) ?_
              | refine ev_arith rfl rfl rfl rfl rfl (by simp only [lowK, hiK]; omega) ?_
              | refine ev_rem rfl rfl rfl rfl (by omega) (by omega) ?_
              | refine ev_quo rfl rfl rfl rfl (by omega) (by omega) (by simp only [hiK]; omega) ?_
              | refine ev_index rfl rfl tabOk rfl rfl rfl (by omega) (by omega) ?_
              | refine ev_indexA rfl rfl tabOk rfl rfl rfl (by omega) (by omega) rfl ?_
              | refine ev_convB rfl rfl tabOk rfl rfl rfl rfl ?_
              | refine ev_conv rfl rfl tabOk rfl rfl rfl (by simp only [lowK, hiK]; omega) ?_)
            refine ev_indexAddr rfl rfl tabOk rfl rfl rfl (by omega) (by omega) ?_
            repeat (first
              | refine stepF_ok tabOk [] (m := 400) rfl ?_
              | refine stepF_ok tabOk [] (m := 16) rfl ?_
              | refine stepF_ok tabOk [] (m := 3) rfl ?_
              | refine stepF_ok tabOk [] (m := 0) rfl ?_
              | refine ev_load rfl rfl tabOk rfl rfl (by assumption) ?_
              | refine ev_loadB rfl rfl tabOk rfl rfl (by assumption) (by rfl) ?_
              | refine ev_loadAggB rfl rfl tabOk rfl rfl (by assumption) (by rfl) ?_
              | refine ev_arith rfl rfl rfl rfl rfl (by simp only [lowK, hiK]; omega) ?_
              | refine ev_rem rfl rfl rfl rfl (by omega) (by omega) ?_
              | refine ev_quo rfl rfl rfl rfl (by omega) (by omega) (by simp only [hiK]; omega) ?_
              | refine ev_index rfl rfl tabOk rfl rfl rfl (by omega) (by omega) ?_
              | refine ev_indexA rfl rfl tabOk rfl rfl rfl (by omega) (by omega) rfl ?_
              | refine ev_convB rfl rfl tabOk rfl rfl rfl rfl ?_
              | refine ev_conv rfl rfl tabOk rfl rfl rfl (by simp only [lowK, hiK]; omega) ?_)
            exact ev_out () ⟨hR6, hoU6, hfW4.tr hf6⟩ ⟨rfl, rfl, rfl, rfl, rfl, rfl, trivial⟩
        · have hok1 : okV x = .bool true := by rw [okV, okB, if_neg h0]
          repeat (first
            | refine stepF_ok tabOk [] (m := 400) rfl ?_
            | refine stepF_ok tabOk [] (m := 16) rfl ?_
            | refine stepF_ok tabOk [] (m := 3) rfl ?_
            | refine stepF_ok tabOk [] (m := 0) rfl ?_
            | refine ev_load rfl rfl tabOk rfl rfl (by assumption) ?_
            | refine ev_loadB rfl rfl tabOk rfl rfl (by assumption) (by rfl) ?_
            | refine ev_loadAggB rfl rfl tabOk rfl rfl (by assumption) (by rfl) ?_
            | refine ev_arith rfl rfl rfl rfl rfl (by simp only [lowK, hiK]; omega) ?_
            | refine ev_rem rfl rfl rfl rfl (by omega) (by omega) ?_
            | refine ev_quo rfl rfl rfl rfl (by omega) (by omega) (by simp only [hiK]; omega) ?_
            | refine ev_index rfl rfl tabOk rfl rfl rfl (by omega) (by omega) ?_
            | refine ev_indexA rfl rfl tabOk rfl rfl rfl (by omega) (by omega) rfl ?_
            | refine ev_convB rfl rfl tabOk rfl rfl rfl rfl ?_
            | refine ev_conv rfl rfl tabOk rfl rfl rfl (by simp only [lowK, hiK]; omega) ?_)
          refine ev_condD rfl (fun h1 => ?_) (fun h1 => ?_)
          · have hB1 : opB x = rowB x.row := by unfold opB; rw [if_neg h0, if_pos h1]
            have hB1l : (rowB x.row).length = x.row.length := by simp [rowB]
            obtain ⟨e1, e2, e3⟩ := back_raw (opsB (ops.take k)) (rowB x.row) _ (hsp.trans (by rw [hB1])) (m := x.row.length) (by omega)
            replace e3 := e3.trans (show _ = (opsB (ops.take (k + 1))).length by rw [hlk, hB1])
            repeat (first
              | refine stepF_ok tabOk [] (m := 400) rfl ?_
              | refine stepF_ok tabOk [] (m := 16) rfl ?_
              | refine stepF_ok tabOk [] (m := 3) rfl ?_
              | refine stepF_ok tabOk [] (m := 0) rfl ?_
              | refine ev_load rfl rfl tabOk rfl rfl (by assumption) ?_
              | refine ev_loadB rfl rfl tabOk rfl rfl (by assumption) (by rfl) ?_
              | refine ev_loadAggB rfl rfl tabOk rfl rfl (by assumption) (by rfl) ?_
              | refine ev_arith rfl rfl rfl rfl rfl (by simp only [lowK, hiK]; omega) ?_
              | refine ev_rem rfl rfl rfl rfl (by omega) (by omega) ?_
              | refine ev_quo rfl rfl rfl rfl (by omega) (by omega) (by simp only [hiK]; omega) ?_
              | refine ev_index rfl rfl tabOk rfl rfl rfl (by omega) (by omega) ?_
              | refine ev_indexA rfl rfl tabOk rfl rfl rfl (by omega) (by omega) rfl ?_
              | refine ev_convB rfl rfl tabOk rfl rfl rfl rfl ?_
              | refine ev_conv rfl rfl tabOk rfl rfl rfl (by simp only [lowK, hiK]; omega) ?_)
            refine ev_call rfl rfl rfl (rdRow q1 _ _ _ _ hR4 (by omega) (by omega)) (fun r w7 hr => ?_)
            obtain ⟨y, rfl, hoy, hny, hR7, hf7⟩ := hr
            rw [e1]
            rw [e3] at hR7
            rw [e2, back_row, hB1l] at hoy
            obtain ⟨Ay, cy, rfl, hcy, _⟩ := hoy.slice
            have hB7 := (‹Blk w5 b _ _›).fr hf7 hob
            have hfW7 : Fr no W w7 := hfW4.trans hf7 (fun u hu z => by have : u = q1 := z; omega)
            repeat (first
              | refine stepF_ok tabOk [] (m := 400) rfl ?_
              | refine stepF_ok tabOk [] (m := 16) rfl ?_
              | refine stepF_ok tabOk [] (m := 3) rfl ?_
              | refine stepF_ok tabOk [] (m := 0) rfl ?_
              | refine ev_load rfl rfl tabOk rfl rfl (by assumption) ?_
              | refine ev_loadB rfl rfl tabOk rfl rfl (by assumption) (by rfl) ?_
              | refine ev_loadAggB rfl rfl tabOk rfl rfl (by assumption) (by rfl) ?_
              | refine ev_arith rfl rfl rfl rfl rfl (by simp only [lowK, hiK]; omega) ?_
              | refine ev_rem rfl rfl rfl rfl (by omega) (by omega) ?_
              | refine ev_quo rfl rfl rfl rfl (by omega) (by omega) (by simp only [hiK]; omega) ?_
              | refine ev_index rfl rfl tabOk rfl rfl rfl (by omega) (by omega) ?_
              | refine ev_indexA rfl rfl tabOk rfl rfl rfl (by omega) (by omega) rfl ?_
              | refine ev_convB rfl rfl tabOk rfl rfl rfl rfl ?_
              | refine ev_conv rfl rfl tabOk rfl rfl rfl (by simp only [lowK, hiK]; omega) ?_)
            refine ev_call rfl rfl rfl (rowsC Ay Ar x.row x.row cy cr _ hcy (hrow.fr0 hfW7) (by omega)) (fun r w9 hr => ?_)
            obtain ⟨rfl, hf9⟩ := hr
            rw [show decide (x.row = x.row) = true from decide_eq_true rfl]
            repeat (first
              | refine stepF_ok tabOk [] (m := 400) rfl ?_
              | refine stepF_ok tabOk [] (m := 16) rfl ?_
              | refine stepF_ok tabOk [] (m := 3) rfl ?_
              | refine stepF_ok tabOk [] (m := 0) rfl ?_
              | refine ev_load rfl rfl tabOk rfl rfl (by assumption) ?_
              | refine ev_loadB rfl rfl tabOk rfl rfl (by assumption) (by rfl) ?_
              | refine ev_loadAggB rfl rfl tabOk rfl rfl (by assumption) (by rfl) ?_
              | refine ev_arith rfl rfl rfl rfl rfl (by simp only [lowK, hiK]; omega) ?_
              | refine ev_rem rfl rfl rfl rfl (by omega) (by omega) ?_
              | refine ev_quo rfl rfl rfl rfl (by omega) (by omega) (by simp only [hiK]; omega) ?_
              | refine ev_index rfl rfl tabOk rfl rfl rfl (by omega) (by omega) ?_
              | refine ev_indexA rfl rfl tabOk rfl rfl rfl (by omega) (by omega) rfl ?_
              | refine ev_convB rfl rfl tabOk rfl rfl rfl rfl ?_
              | refine ev_conv rfl rfl tabOk rfl rfl rfl (by simp only [lowK, hiK]; omega) ?_)
            exact ev_out () ⟨hR7.fr0 hf9, (hoU4.fr hf7 huq).fr0 hf9, hfW7.tr hf9⟩ ⟨rfl, rfl, rfl, rfl, rfl, rfl, trivial⟩
          · repeat (first
              | refine stepF_ok tabOk [] (m := 400) rfl ?_
              | refine stepF_ok tabOk [] (m := 16) rfl ?_
              | refine stepF_ok tabOk [] (m := 3) rfl ?_
              | refine stepF_ok tabOk [] (m := 0) rfl ?_
              | refine ev_load rfl rfl tabOk rfl rfl (by assumption) ?_
              | refine ev_loadB rfl rfl tabOk rfl rfl (by assumption) (by rfl) ?_
              | refine ev_loadAggB rfl rfl tabOk rfl rfl (by assumption) (by rfl) ?_
              | refine ev_arith rfl rfl rfl rfl rfl (by simp only [lowK, hiK]; omega) ?_
              | refine ev_rem rfl rfl rfl rfl (by omega) (by omega) ?_
              | refine ev_quo rfl rfl rfl rfl (by omega) (by omega) (by simp only [hiK]; omega) ?_
              | refine ev_index rfl rfl tabOk rfl rfl rfl (by omega) (by omega) ?_
              | refine ev_indexA rfl rfl tabOk rfl rfl rfl (by omega) (by omega) rfl ?_
              | refine ev_convB rfl rfl tabOk rfl rfl rfl rfl ?_
              | refine ev_conv rfl rfl tabOk rfl rfl rfl (by simp only [lowK, hiK]; omega) ?_)
            refine ev_condD rfl (fun h2 => ?_) (fun h2 => ?_)
            · have hB2 : opB x = x.text := by unfold opB; rw [if_neg h0, if_neg h1, if_pos h2]
              obtain ⟨e1, e2, e3⟩ := back_raw (opsB (ops.take k)) x.text _ (hsp.trans (by rw [hB2])) (m := x.text.length) rfl
              replace e3 := e3.trans (show _ = (opsB (ops.take (k + 1))).length by rw [hlk, hB2])
              repeat (first
                | refine stepF_ok tabOk [] (m := 400) rfl ?_
                | refine stepF_ok tabOk [] (m := 16) rfl ?_
                | refine stepF_ok tabOk [] (m := 3) rfl ?_
                | refine stepF_ok tabOk [] (m := 0) rfl ?_
                | refine ev_load rfl rfl tabOk rfl rfl (by assumption) ?_
                | refine ev_loadB rfl rfl tabOk rfl rfl (by assumption) (by rfl) ?_
                | refine ev_loadAggB rfl rfl tabOk rfl rfl (by assumption) (by rfl) ?_
                | refine ev_arith rfl rfl rfl rfl rfl (by simp only [lowK, hiK]; omega) ?_
                | refine ev_rem rfl rfl rfl rfl (by omega) (by omega) ?_
                | refine ev_quo rfl rfl rfl rfl (by omega) (by omega) (by simp only [hiK]; omega) ?_
                | refine ev_index rfl rfl tabOk rfl rfl rfl (by omega) (by omega) ?_
                | refine ev_indexA rfl rfl tabOk rfl rfl rfl (by omega) (by omega) rfl ?_
                | refine ev_convB rfl rfl tabOk rfl rfl rfl rfl ?_
                | refine ev_conv rfl rfl tabOk rfl rfl rfl (by simp only [lowK, hiK]; omega) ?_)
              refine ev_call rfl rfl rfl (rdRaw q1 _ _ _ _ hR4 (by omega) (by omega)) (fun r w7 hr => ?_)
              obtain ⟨rfl, hR7, hf7⟩ := hr
              rw [e1, e2]
              rw [e3] at hR7
              have hB7 := (‹Blk w5 b _ _›).fr hf7 hob
              repeat (first
                | refine stepF_ok tabOk [] (m := 400) rfl ?_
                | refine stepF_ok tabOk [] (m := 16) rfl ?_
                | refine stepF_ok tabOk [] (m := 3) rfl ?_
                | refine stepF_ok tabOk [] (m := 0) rfl ?_
                | refine ev_load rfl rfl tabOk rfl rfl (by assumption) ?_
                | refine ev_loadB rfl rfl tabOk rfl rfl (by assumption) (by rfl) ?_
                | refine ev_loadAggB rfl rfl tabOk rfl rfl (by assumption) (by rfl) ?_
                | refine ev_arith rfl rfl rfl rfl rfl (by simp only [lowK, hiK]; omega) ?_
                | refine ev_rem rfl rfl rfl rfl (by omega) (by omega) ?_
                | refine ev_quo rfl rfl rfl rfl (by omega) (by omega) (by simp only [hiK]; omega) ?_
                | refine ev_index rfl rfl tabOk rfl rfl rfl (by omega) (by omega) ?_
                | refine ev_indexA rfl rfl tabOk rfl rfl rfl (by omega) (by omega) rfl ?_
                | refine ev_convB rfl rfl tabOk rfl rfl rfl rfl ?_
                | refine ev_conv rfl rfl tabOk rfl rfl rfl (by simp only [lowK, hiK]; omega) ?_)
              refine ev_guardD rfl rfl (fun _ => ?_) (fun z => absurd rfl z)
              repeat (first
                | refine stepF_ok tabOk [] (m := 400) rfl ?_
                | refine stepF_ok tabOk [] (m := 16) rfl ?_
                | refine stepF_ok tabOk [] (m := 3) rfl ?_
                | refine stepF_ok tabOk [] (m := 0) rfl ?_
                | refine ev_load rfl rfl tabOk rfl rfl (by assumption) ?_
                | refine ev_loadB rfl rfl tabOk rfl rfl (by assumption) (by rfl) ?_
                | refine ev_loadAggB rfl rfl tabOk rfl rfl (by assumption) (by rfl) ?_
                | refine ev_arith rfl rfl rfl rfl rfl (by simp only [lowK, hiK]; omega) ?_
                | refine ev_rem rfl rfl rfl rfl (by omega) (by omega) ?_
                | refine ev_quo rfl rfl rfl rfl (by omega) (by omega) (by simp only [hiK]; omega) ?_
                | refine ev_index rfl rfl tabOk rfl rfl rfl (by omega) (by omega) ?_
                | refine ev_indexA rfl rfl tabOk rfl rfl rfl (by omega) (by omega) rfl ?_
                | refine ev_convB rfl rfl tabOk rfl rfl rfl rfl ?_
                | refine ev_conv rfl rfl tabOk rfl rfl rfl (by simp only [lowK, hiK]; omega) ?_)
              exact ev_out () ⟨hR7, hoU4.fr hf7 huq, hfW4.trans hf7 (fun u hu z => by have : u = q1 := z; omega)⟩ ⟨rfl, rfl, rfl, rfl, rfl, rfl, trivial⟩
            · have hB3 : opB x = txtB x.text := by unfold opB; rw [if_neg h0, if_neg h1, if_neg h2]
              obtain ⟨e1, e2, e3⟩ := back_txt (opsB (ops.take k)) x.text _ (hsp.trans (by rw [hB3])) (by omega)
              replace e3 := e3.trans (show _ = (opsB (ops.take (k + 1))).length by rw [hlk, hB3])
              obtain ⟨bu, ou, rfl, hc4⟩ := hcell _ hoU4
              rw [hok1] at hc4
              repeat (first
                | refine stepF_ok tabOk [] (m := 400) rfl ?_
                | refine stepF_ok tabOk [] (m := 16) rfl ?_
                | refine stepF_ok tabOk [] (m := 3) rfl ?_
                | refine stepF_ok tabOk [] (m := 0) rfl ?_
                | refine ev_load rfl rfl tabOk rfl rfl (by assumption) ?_
                | refine ev_loadB rfl rfl tabOk rfl rfl (by assumption) (by rfl) ?_
                | refine ev_loadAggB rfl rfl tabOk rfl rfl (by assumption) (by rfl) ?_
                | refine ev_arith rfl rfl rfl rfl rfl (by simp only [lowK, hiK]; omega) ?_
                | refine ev_rem rfl rfl rfl rfl (by omega) (by omega) ?_
                | refine ev_quo rfl rfl rfl rfl (by omega) (by omega) (by simp only [hiK]; omega) ?_
                | refine ev_index rfl rfl tabOk rfl rfl rfl (by omega) (by omega) ?_
                | refine ev_indexA rfl rfl tabOk rfl rfl rfl (by omega) (by omega) rfl ?_
                | refine ev_convB rfl rfl tabOk rfl rfl rfl rfl ?_
                | refine ev_conv rfl rfl tabOk rfl rfl rfl (by simp only [lowK, hiK]; omega) ?_)
              refine ev_call rfl rfl rfl (rdText q1 _ _ _ _ hR4 (by omega) (by omega)) (fun r w7 hr => ?_)
              obtain ⟨rfl, hR7, hf7⟩ := hr
              rw [e1, e2]
              rw [e3] at hR7
              have hB7 := (‹Blk w5 b _ _›).fr hf7 hob
              have hc7 := cell_fr hc4 hf7 (huq bu (by rfl))
              repeat (first
                | refine stepF_ok tabOk [] (m := 400) rfl ?_
                | refine stepF_ok tabOk [] (m := 16) rfl ?_
                | refine stepF_ok tabOk [] (m := 3) rfl ?_
                | refine stepF_ok tabOk [] (m := 0) rfl ?_
                | refine ev_load rfl rfl tabOk rfl rfl (by assumption) ?_
                | refine ev_loadB rfl rfl tabOk rfl rfl (by assumption) (by rfl) ?_
                | refine ev_loadAggB rfl rfl tabOk rfl rfl (by assumption) (by rfl) ?_
                | refine ev_arith rfl rfl rfl rfl rfl (by simp only [lowK, hiK]; omega) ?_
                | refine ev_rem rfl rfl rfl rfl (by omega) (by omega) ?_
                | refine ev_quo rfl rfl rfl rfl (by omega) (by omega) (by simp only [hiK]; omega) ?_
                | refine ev_index rfl rfl tabOk rfl rfl rfl (by omega) (by omega) ?_
                | refine ev_indexA rfl rfl tabOk rfl rfl rfl (by omega) (by omega) rfl ?_
                | refine ev_convB rfl rfl tabOk rfl rfl rfl rfl ?_
                | refine ev_conv rfl rfl tabOk rfl rfl rfl (by simp only [lowK, hiK]; omega) ?_)
              refine ev_guardD rfl rfl (fun _ => ?_) (fun z => absurd rfl z)
              repeat (first
                | refine stepF_ok tabOk [] (m := 400) rfl ?_
                | refine stepF_ok tabOk [] (m := 16) rfl ?_
                | refine stepF_ok tabOk [] (m := 3) rfl ?_
                | refine stepF_ok tabOk [] (m := 0) rfl ?_
                | refine ev_load rfl rfl tabOk rfl rfl (by assumption) ?_
                | refine ev_loadB rfl rfl tabOk rfl rfl (by assumption) (by rfl) ?_
                | refine ev_loadAggB rfl rfl tabOk rfl rfl (by assumption) (by rfl) ?_
                | refine ev_arith rfl rfl rfl rfl rfl (by simp only [lowK, hiK]; omega) ?_
                | refine ev_rem rfl rfl rfl rfl (by omega) (by omega) ?_
                | refine ev_quo rfl rfl rfl rfl (by omega) (by omega) (by simp only [hiK]; omega) ?_
                | refine ev_index rfl rfl tabOk rfl rfl rfl (by omega) (by omega) ?_
                | refine ev_indexA rfl rfl tabOk rfl rfl rfl (by omega) (by omega) rfl ?_
                | refine ev_convB rfl rfl tabOk rfl rfl rfl rfl ?_
                | refine ev_conv rfl rfl tabOk rfl rfl rfl (by simp only [lowK, hiK]; omega) ?_)
              refine ev_indexAddr rfl rfl tabOk rfl rfl rfl (by omega) (by omega) ?_
              repeat (first
                | refine stepF_ok tabOk [] (m := 400) rfl ?_
                | refine stepF_ok tabOk [] (m := 16) rfl ?_
                | refine stepF_ok tabOk [] (m := 3) rfl ?_
                | refine stepF_ok tabOk [] (m := 0) rfl ?_
                | refine ev_load rfl rfl tabOk rfl rfl (by assumption) ?_
                | refine ev_loadB rfl rfl tabOk rfl rfl (by assumption) (by rfl) ?_
                | refine ev_loadAggB rfl rfl tabOk rfl rfl (by assumption) (by rfl) ?_
                | refine ev_arith rfl rfl rfl rfl rfl (by simp only [lowK, hiK]; omega) ?_
                | refine ev_rem rfl rfl rfl rfl (by omega) (by omega) ?_
                | refine ev_quo rfl rfl rfl rfl (by omega) (by omega) (by simp only [hiK]; omega) ?_
                | refine ev_index rfl rfl tabOk rfl rfl rfl (by omega) (by omega) ?_
                | refine ev_indexA rfl rfl tabOk rfl rfl rfl (by omega) (by omega) rfl ?_
                | refine ev_convB rfl rfl tabOk rfl rfl rfl rfl ?_
                | refine ev_conv rfl rfl tabOk rfl rfl rfl (by simp only [lowK, hiK]; omega) ?_)
              exact ev_out () ⟨hR7, hoU4.fr hf7 huq, hfW4.trans hf7 (fun u hu z => by have : u = q1 := z; omega)⟩ ⟨rfl, rfl, rfl, rfl, rfl, rfl, trivial⟩
      · rintro _ w6 ⟨hR6, hoU6, hfW6⟩
        repeat (first
          | refine stepF_ok tabOk [] (m := 400) rfl ?_
          | refine stepF_ok tabOk [] (m := 16) rfl ?_
          | refine stepF_ok tabOk [] (m := 3) rfl ?_
          | refine stepF_ok tabOk [] (m := 0) rfl ?_
          | refine ev_load rfl rfl tabOk rfl rfl (by assumption) ?_
          | refine ev_loadB rfl rfl tabOk rfl rfl (by assumption) (by rfl) ?_
          | refine ev_loadAggB rfl rfl tabOk rfl rfl (by assumption) (by rfl) ?_
          | refine ev_arith rfl rfl rfl rfl rfl (by simp only [lowK, hiK]; omega) ?_
          | refine ev_rem rfl rfl rfl rfl (by omega) (by omega) ?_
          | refine ev_quo rfl rfl rfl rfl (by omega) (by omega) (by simp only [hiK]; omega) ?_
          | refine ev_index rfl rfl tabOk rfl rfl rfl (by omega) (by omega) ?_
          | refine ev_indexA rfl rfl tabOk rfl rfl rfl (by omega) (by omega) rfl ?_
          | refine ev_convB rfl rfl tabOk rfl rfl rfl rfl ?_
          | refine ev_conv rfl rfl tabOk rfl rfl rfl (by simp only [lowK, hiK]; omega) ?_)
        exact ev_next (k + 1) (by omega) ⟨by omega, hR6, hoU6, hfW6⟩ ⟨rfl, rfl, rfl, rfl, rfl, trivial⟩
    · have hk' : k = ops.length := by omega
      subst hk'
      rw [List.take_length] at hR
      repeat (first
        | refine stepF_ok tabOk [] (m := 400) rfl ?_
        | refine stepF_ok tabOk [] (m := 16) rfl ?_
        | refine stepF_ok tabOk [] (m := 3) rfl ?_
        | refine stepF_ok tabOk [] (m := 0) rfl ?_
        | refine ev_load rfl rfl tabOk rfl rfl (by assumption) ?_
        | refine ev_loadB rfl rfl tabOk rfl rfl (by assumption) (by rfl) ?_
        | refine ev_loadAggB rfl rfl tabOk rfl rfl (by assumption) (by rfl) ?_
        | refine ev_arith rfl rfl rfl rfl rfl (by simp only [lowK, hiK]; omega) ?_
        | refine ev_rem rfl rfl rfl rfl (by omega) (by omega) ?_
        | refine ev_quo rfl rfl rfl rfl (by omega) (by omega) (by simp only [hiK]; omega) ?_
        | refine ev_index rfl rfl tabOk rfl rfl rfl (by omega) (by omega) ?_
        | refine ev_indexA rfl rfl tabOk rfl rfl rfl (by omega) (by omega) rfl ?_
        | refine ev_convB rfl rfl tabOk rfl rfl rfl rfl ?_
        | refine ev_conv rfl rfl tabOk rfl rfl rfl (by simp only [lowK, hiK]; omega) ?_)
      refine ev_call rfl rfl rfl (left q1 _ _ _ hR (by omega) (by omega)) (fun r w7 hr => ?_)
      obtain ⟨rfl, hf7⟩ := hr
      repeat (first
        | refine stepF_ok tabOk [] (m := 400) rfl ?_
        | refine stepF_ok tabOk [] (m := 16) rfl ?_
        | refine stepF_ok tabOk [] (m := 3) rfl ?_
        | refine stepF_ok tabOk [] (m := 0) rfl ?_
        | refine ev_load rfl rfl tabOk rfl rfl (by assumption) ?_
        | refine ev_loadB rfl rfl tabOk rfl rfl (by assumption) (by rfl) ?_
        | refine ev_loadAggB rfl rfl tabOk rfl rfl (by assumption) (by rfl) ?_
        | refine ev_arith rfl rfl rfl rfl rfl (by simp only [lowK, hiK]; omega) ?_
        | refine ev_rem rfl rfl rfl rfl (by omega) (by omega) ?_
        | refine ev_quo rfl rfl rfl rfl (by omega) (by omega) (by simp only [hiK]; omega) ?_
        | refine ev_index rfl rfl tabOk rfl rfl rfl (by omega) (by omega) ?_
        | refine ev_indexA rfl rfl tabOk rfl rfl rfl (by omega) (by omega) rfl ?_
        | refine ev_convB rfl rfl tabOk rfl rfl rfl rfl ?_
        | refine ev_conv rfl rfl tabOk rfl rfl rfl (by simp only [lowK, hiK]; omega) ?_)
      exact ret1 (.inr rfl) rfl rfl ⟨by rw [decide_eq_true (by omega)], hfW.tr hf7⟩
end Go.Wk.Ytihjpjpellagiaa
