/-
  WireWrites: the walk.
-/
import Derived.Test.YtihjpjpellagiaaShow
import Derived.Test.YtihjpjpellagiaaWireW
set_option linter.unusedVariables false
namespace Go.Wk.Ytihjpjpellagiaa
open Go Go.Wk Go.Proofs

set_option maxHeartbeats 2000000 in
theorem wireWrites (A : Option Addr) (c : Nat) (ops : List OpV) (W : World) (hO : OpsC W A ops) (hv : volB ops ≤ 100000000) :
    CallsF Try.prog 6 [.slice A ops.length c] W fun r w' => r = .bool true ∧ Fr no W w' := by
  refine callsF Try.func6 rfl rfl (by decide) rfl ?_
  repeat (first
    | refine stepF_ok tabOk [] (m := 400) rfl ?_
    | refine stepF_ok tabOk [] (m := 16) rfl ?_
    | refine stepF_ok tabOk [] (m := 3) rfl ?_
    | refine stepF_ok tabOk [] (m := 0) rfl ?_
    | refine ev_load rfl rfl tabOk rfl rfl (by assumption) ?_
    | refine ev_loadB rfl rfl tabOk rfl rfl (by assumption) (by rfl) ?_
    | refine ev_loadAggB rfl rfl tabOk rfl rfl (by assumption) (by rfl) ?_
    | refine ev_arith rfl rfl rfl rfl rfl (by simp only [lowK, hiK]; omega) ?_
    | refine ev_rem rfl rfl rfl rfl (by omega) (by omega) ?_
    | refine ev_quo rfl rfl rfl rfl (by omega) (by omega) (by simp only [hiK]; omega) ?_
    | refine ev_index rfl rfl tabOk rfl rfl rfl (by omega) (by omega) ?_
    | refine ev_indexA rfl rfl tabOk rfl rfl rfl (by omega) (by omega) rfl ?_
    | refine ev_convB rfl rfl tabOk rfl rfl rfl rfl ?_
    | refine ev_conv rfl rfl tabOk rfl rfl rfl (by simp only [lowK, hiK]; omega) ?_)
  refine ev_call rfl rfl rfl (newWriter _) (fun r w1 hr => ?_)
  obtain ⟨p, rfl, hp, hW, hf1⟩ := hr
  repeat (first
    | refine stepF_ok tabOk [] (m := 400) rfl ?_
    | refine stepF_ok tabOk [] (m := 16) rfl ?_
    | refine stepF_ok tabOk [] (m := 3) rfl ?_
    | refine stepF_ok tabOk [] (m := 0) rfl ?_
    | refine ev_load rfl rfl tabOk rfl rfl (by assumption) ?_
    | refine ev_loadB rfl rfl tabOk rfl rfl (by assumption) (by rfl) ?_
    | refine ev_loadAggB rfl rfl tabOk rfl rfl (by assumption) (by rfl) ?_
    | refine ev_arith rfl rfl rfl rfl rfl (by simp only [lowK, hiK]; omega) ?_
    | refine ev_rem rfl rfl rfl rfl (by omega) (by omega) ?_
    | refine ev_quo rfl rfl rfl rfl (by omega) (by omega) (by simp only [hiK]; omega) ?_
    | refine ev_index rfl rfl tabOk rfl rfl rfl (by omega) (by omega) ?_
    | refine ev_indexA rfl rfl tabOk rfl rfl rfl (by omega) (by omega) rfl ?_
    | refine ev_convB rfl rfl tabOk rfl rfl rfl rfl ?_
    | refine ev_conv rfl rfl tabOk rfl rfl rfl (by simp only [lowK, hiK]; omega) ?_)
  refine ev_call rfl rfl rfl (awake _) (fun r w2 hr => ?_)
  obtain ⟨rfl, hf2⟩ := hr
  have hI : WI W w2 p (opsB (ops.take 0)) := ⟨_, hW.fr0 hf2, hf1.tr hf2, hp, fun g hg => by cases hg⟩
  clear hW hf1 hf2 hp
  repeat (first
    | refine stepF_ok tabOk [] (m := 400) rfl ?_
    | refine stepF_ok tabOk [] (m := 16) rfl ?_
    | refine stepF_ok tabOk [] (m := 3) rfl ?_
    | refine stepF_ok tabOk [] (m := 0) rfl ?_
    | refine ev_load rfl rfl tabOk rfl rfl (by assumption) ?_
    | refine ev_loadB rfl rfl tabOk rfl rfl (by assumption) (by rfl) ?_
    | refine ev_loadAggB rfl rfl tabOk rfl rfl (by assumption) (by rfl) ?_
    | refine ev_arith rfl rfl rfl rfl rfl (by simp only [lowK, hiK]; omega) ?_
    | refine ev_rem rfl rfl rfl rfl (by omega) (by omega) ?_
    | refine ev_quo rfl rfl rfl rfl (by omega) (by omega) (by simp only [hiK]; omega) ?_
    | refine ev_index rfl rfl tabOk rfl rfl rfl (by omega) (by omega) ?_
    | refine ev_indexA rfl rfl tabOk rfl rfl rfl (by omega) (by omega) rfl ?_
    | refine ev_convB rfl rfl tabOk rfl rfl rfl rfl ?_
    | refine ev_conv rfl rfl tabOk rfl rfl rfl (by simp only [lowK, hiK]; omega) ?_)
  refine ev_loop (α := Nat) (fun k => [(0, .slice A ops.length c), (3, .pointer (some ⟨p, 0, none⟩)), (4, .string (sOf (opsB (ops.take k)))), (5, .int .i64 k)])
    (fun k w' => k ≤ ops.length ∧ WI W w' p (opsB (ops.take k))) (fun k => ops.length - k) 0 ⟨rfl, rfl, rfl, rfl, trivial⟩ ⟨Nat.zero_le _, hI⟩ ?_
  clear hI
  rintro k w ⟨hk, hI⟩
  have hops : ops.length ≤ 100000000 := Nat.le_trans (volB_len ops) hv
  repeat (first
    | refine stepF_ok tabOk [] (m := 400) rfl ?_
    | refine stepF_ok tabOk [] (m := 16) rfl ?_
    | refine stepF_ok tabOk [] (m := 3) rfl ?_
    | refine stepF_ok tabOk [] (m := 0) rfl ?_
    | refine ev_load rfl rfl tabOk rfl rfl (by assumption) ?_
    | refine ev_loadB rfl rfl tabOk rfl rfl (by assumption) (by rfl) ?_
    | refine ev_loadAggB rfl rfl tabOk rfl rfl (by assumption) (by rfl) ?_
    | refine ev_arith rfl rfl rfl rfl rfl (by simp only [lowK, hiK]; omega) ?_
    | refine ev_rem rfl rfl rfl rfl (by omega) (by omega) ?_
    | refine ev_quo rfl rfl rfl rfl (by omega) (by omega) (by simp only [hiK]; omega) ?_
    | refine ev_index rfl rfl tabOk rfl rfl rfl (by omega) (by omega) ?_
    | refine ev_indexA rfl rfl tabOk rfl rfl rfl (by omega) (by omega) rfl ?_
    | refine ev_convB rfl rfl tabOk rfl rfl rfl rfl ?_
    | refine ev_conv rfl rfl tabOk rfl rfl rfl (by simp only [lowK, hiK]; omega) ?_)
  refine ev_condD rfl (fun hlt => ?_) (fun hlt => ?_)
  · have hk1 : k < ops.length := by omega
    have hx : ops[k]? = some ops[k] := List.getElem?_eq_getElem hk1
    generalize ops[k] = x at hx
    obtain ⟨v, hWr, hfW, hpW, hgW⟩ := hI
    obtain ⟨b0, o0, Ar, cr, rfl, hag, hrow, hok, hrb⟩ := hO.at hfW hx
    have htk := opsB_take hx
    have hlen := opsB_len (ops.take k)
    have hlen2 := volB_take ops k
    have hvol := volB_get hx
    have hxl : x.row.length + x.text.length + 8 ≤ 100000000 := by have := hvol; unfold OpV.vol at this; omega
    obtain ⟨⟨hk1', hk2'⟩, ⟨hn1', hn2'⟩, ⟨hb1', hb2'⟩⟩ := hok
    repeat (first
      | refine stepF_ok tabOk [] (m := 400) rfl ?_
      | refine stepF_ok tabOk [] (m := 16) rfl ?_
      | refine stepF_ok tabOk [] (m := 3) rfl ?_
      | refine stepF_ok tabOk [] (m := 0) rfl ?_
      | refine ev_load rfl rfl tabOk rfl rfl (by assumption) ?_
      | refine ev_loadB rfl rfl tabOk rfl rfl (by assumption) (by rfl) ?_
      | refine ev_loadAggB rfl rfl tabOk rfl rfl (by assumption) (by rfl) ?_
      | refine ev_arith rfl rfl rfl rfl rfl (by simp only [lowK, hiK]; omega) ?_
      | refine ev_rem rfl rfl rfl rfl (by omega) (by omega) ?_
      | refine ev_quo rfl rfl rfl rfl (by omega) (by omega) (by simp only [hiK]; omega) ?_
      | refine ev_index rfl rfl tabOk rfl rfl rfl (by omega) (by omega) ?_
      | refine ev_indexA rfl rfl tabOk rfl rfl rfl (by omega) (by omega) rfl ?_
      | refine ev_convB rfl rfl tabOk rfl rfl rfl rfl ?_
      | refine ev_conv rfl rfl tabOk rfl rfl rfl (by simp only [lowK, hiK]; omega) ?_)
    refine ev_indexAddr rfl rfl tabOk rfl rfl rfl (by omega) (by omega) ?_
    refine ev_loadAgg rfl rfl tabOk rfl rfl rfl hag ?_
    refine ev_alloc rfl rfl inf45 (fun b w3 hb hB hf3 => ?_)
    refine ev_storeAgg tabOk rfl rfl rfl rfl rfl rfl hB rfl (fun w4 hB hf4 => ?_)
    have hob : ¬ WS p v b := fun h => by
      rcases h with h | h
      · have := hWr.1.lt; omega
      · have := Own.lt hWr.2.1 b h; omega
    have hWr4 : Wr w4 p v _ := (hWr.fr0 hf3).fr hf4 (fun e => hob (.inl e.symm)) (fun g hg e => hob (.inr (e ▸ hg)))
    have hfW4 : Fr no W w4 := (hfW.tr hf3).trans hf4 (fun q hq e => by have := hfW.size; omega)
    have hp4 := hWr.1.lt
    have hg4 := Own.lt hWr.2.1
    have hs4 : w.heap.size ≤ w4.heap.size := Nat.le_trans hf3.size hf4.size
    clear hWr hf3 hf4
    repeat (first
      | refine stepF_ok tabOk [] (m := 400) rfl ?_
      | refine stepF_ok tabOk [] (m := 16) rfl ?_
      | refine stepF_ok tabOk [] (m := 3) rfl ?_
      | refine stepF_ok tabOk [] (m := 0) rfl ?_
      | refine ev_load rfl rfl tabOk rfl rfl (by assumption) ?_
      | refine ev_loadB rfl rfl tabOk rfl rfl (by assumption) (by rfl) ?_
      | refine ev_loadAggB rfl rfl tabOk rfl rfl (by assumption) (by rfl) ?_
      | refine ev_arith rfl rfl rfl rfl rfl (by simp only [lowK, hiK]; omega) ?_
      | refine ev_rem rfl rfl rfl rfl (by omega) (by omega) ?_
      | refine ev_quo rfl rfl rfl rfl (by omega) (by omega) (by simp only [hiK]; omega) ?_
      | refine ev_index rfl rfl tabOk rfl rfl rfl (by omega) (by omega) ?_
      | refine ev_indexA rfl rfl tabOk rfl rfl rfl (by omega) (by omega) rfl ?_
      | refine ev_convB rfl rfl tabOk rfl rfl rfl rfl ?_
      | refine ev_conv rfl rfl tabOk rfl rfl rfl (by simp only [lowK, hiK]; omega) ?_)
    refine ev_call rfl rfl rfl (kindC _ _ hk1' hk2') (fun r w5 hr => ?_)
    obtain ⟨rfl, rfl⟩ := hr
    repeat (first
      | refine stepF_ok tabOk [2] (m := 400) rfl ?_
      | refine stepF_ok tabOk [2] (m := 16) rfl ?_
      | refine stepF_ok tabOk [2] (m := 3) rfl ?_
      | refine stepF_ok tabOk [2] (m := 0) rfl ?_
      | refine ev_load rfl rfl tabOk rfl rfl (by assumption) ?_
      | refine ev_loadB rfl rfl tabOk rfl rfl (by assumption) (by rfl) ?_
      | refine ev_loadAggB rfl rfl tabOk rfl rfl (by assumption) (by rfl) ?_
      | refine ev_arith rfl rfl rfl rfl rfl (by simp only [lowK, hiK]; omega) ?_
      | refine ev_rem rfl rfl rfl rfl (by omega) (by omega) ?_
      | refine ev_quo rfl rfl rfl rfl (by omega) (by omega) (by simp only [hiK]; omega) ?_
      | refine ev_index rfl rfl tabOk rfl rfl rfl (by omega) (by omega) ?_
      | refine ev_indexA rfl rfl tabOk rfl rfl rfl (by omega) (by omega) rfl ?_
      | refine ev_convB rfl rfl tabOk rfl rfl rfl rfl ?_
      | refine ev_conv rfl rfl tabOk rfl rfl rfl (by simp only [lowK, hiK]; omega) ?_)
    refine ev_cut (α := Unit) (fun _ => [(0, .slice (some ⟨b0, o0, none⟩) ops.length c), (3, .pointer (some ⟨p, 0, none⟩)), (4, .string (sOf (opsB (ops.take (k + 1))))), (5, .int .i64 k)])
      (fun _ w' => WI W w' p (opsB (ops.take (k + 1)))) ?_ ?_
    · repeat (first
        | refine stepF_ok tabOk [] (m := 400) rfl ?_
        | refine stepF_ok tabOk [] (m := 16) rfl ?_
        | refine stepF_ok tabOk [] (m := 3) rfl ?_
        | refine stepF_ok tabOk [] (m := 0) rfl ?_
        | refine ev_load rfl rfl tabOk rfl rfl (by assumption) ?_
        | refine ev_loadB rfl rfl tabOk rfl rfl (by assumption) (by rfl) ?_
        | refine ev_loadAggB rfl rfl tabOk rfl rfl (by assumption) (by rfl) ?_
        | refine ev_arith rfl rfl rfl rfl rfl (by simp only [lowK, hiK]; omega) ?_
        | refine ev_rem rfl rfl rfl rfl (by omega) (by omega) ?_
        | refine ev_quo rfl rfl rfl rfl (by omega) (by omega) (by simp only [hiK]; omega) ?_
        | refine ev_index rfl rfl tabOk rfl rfl rfl (by omega) (by omega) ?_
        | refine ev_indexA rfl rfl tabOk rfl rfl rfl (by omega) (by omega) rfl ?_
        | refine ev_convB rfl rfl tabOk rfl rfl rfl rfl ?_
        | refine ev_conv rfl rfl tabOk rfl rfl rfl (by simp only [lowK, hiK]; omega) ?_)
      refine ev_condD rfl (fun h0 => ?_) (fun h0 => ?_)
      · have hB0 : opB x = numB x.n x.bytes := by unfold opB; rw [if_pos h0]
        repeat (first
          | refine stepF_ok tabOk [] (m := 400) rfl ?_
          | refine stepF_ok tabOk [] (m := 16) rfl ?_
          | refine stepF_ok tabOk [] (m := 3) rfl ?_
          | refine stepF_ok tabOk [] (m := 0) rfl ?_
          | refine ev_load rfl rfl tabOk rfl rfl (by assumption) ?_
          | refine ev_loadB rfl rfl tabOk rfl rfl (by assumption) (by rfl) ?_
          | refine ev_loadAggB rfl rfl tabOk rfl rfl (by assumption) (by rfl) ?_
          | refine ev_arith rfl rfl rfl rfl rfl (by simp only [lowK, hiK]; omega) ?_
          | refine ev_rem rfl rfl rfl rfl (by omega) (by omega) ?_
          | refine ev_quo rfl rfl rfl rfl (by omega) (by omega) (by simp only [hiK]; omega) ?_
          | refine ev_index rfl rfl tabOk rfl rfl rfl (by omega) (by omega) ?_
          | refine ev_indexA rfl rfl tabOk rfl rfl rfl (by omega) (by omega) rfl ?_
          | refine ev_convB rfl rfl tabOk rfl rfl rfl rfl ?_
          | refine ev_conv rfl rfl tabOk rfl rfl rfl (by simp only [lowK, hiK]; omega) ?_)
        refine ev_call rfl rfl rfl (refNumber _ _ _ hn1' hn2') (fun r w6 hr => ?_)
        obtain ⟨rfl, hf6⟩ := hr
        have hB := hB.fr0 hf6
        have hWr6 := hWr4.fr0 hf6
        repeat (first
          | refine stepF_ok tabOk [] (m := 400) rfl ?_
          | refine stepF_ok tabOk [] (m := 16) rfl ?_
          | refine stepF_ok tabOk [] (m := 3) rfl ?_
          | refine stepF_ok tabOk [] (m := 0) rfl ?_
          | refine ev_load rfl rfl tabOk rfl rfl (by assumption) ?_
          | refine ev_loadB rfl rfl tabOk rfl rfl (by assumption) (by rfl) ?_
          | refine ev_loadAggB rfl rfl tabOk rfl rfl (by assumption) (by rfl) ?_
          | refine ev_arith rfl rfl rfl rfl rfl (by simp only [lowK, hiK]; omega) ?_
          | refine ev_rem rfl rfl rfl rfl (by omega) (by omega) ?_
          | refine ev_quo rfl rfl rfl rfl (by omega) (by omega) (by simp only [hiK]; omega) ?_
          | refine ev_index rfl rfl tabOk rfl rfl rfl (by omega) (by omega) ?_
          | refine ev_indexA rfl rfl tabOk rfl rfl rfl (by omega) (by omega) rfl ?_
          | refine ev_convB rfl rfl tabOk rfl rfl rfl rfl ?_
          | refine ev_conv rfl rfl tabOk rfl rfl rfl (by simp only [lowK, hiK]; omega) ?_)
        refine ev_call rfl rfl rfl (wrNumber p v _ _ _ _ hWr6 (by omega) hn1' hn2') (fun r w7 hr => ?_)
        obtain ⟨rfl, hr⟩ := hr
        have hI := WI.step (hfW4.tr hf6) hpW hgW hr
        repeat (first
          | refine stepF_ok tabOk [] (m := 400) rfl ?_
          | refine stepF_ok tabOk [] (m := 16) rfl ?_
          | refine stepF_ok tabOk [] (m := 3) rfl ?_
          | refine stepF_ok tabOk [] (m := 0) rfl ?_
          | refine ev_load rfl rfl tabOk rfl rfl (by assumption) ?_
          | refine ev_loadB rfl rfl tabOk rfl rfl (by assumption) (by rfl) ?_
          | refine ev_loadAggB rfl rfl tabOk rfl rfl (by assumption) (by rfl) ?_
          | refine ev_arith rfl rfl rfl rfl rfl (by simp only [lowK, hiK]; omega) ?_
          | refine ev_rem rfl rfl rfl rfl (by omega) (by omega) ?_
          | refine ev_quo rfl rfl rfl rfl (by omega) (by omega) (by simp only [hiK]; omega) ?_
          | refine ev_index rfl rfl tabOk rfl rfl rfl (by omega) (by omega) ?_
          | refine ev_indexA rfl rfl tabOk rfl rfl rfl (by omega) (by omega) rfl ?_
          | refine ev_convB rfl rfl tabOk rfl rfl rfl rfl ?_
          | refine ev_conv rfl rfl tabOk rfl rfl rfl (by simp only [lowK, hiK]; omega) ?_)
        refine ev_condD rfl (fun hne => absurd rfl hne) (fun _ => ?_)
        have hn8 := numB_len x.n x.bytes
        repeat (first
          | refine stepF_ok tabOk [] (m := 400) rfl ?_
          | refine stepF_ok tabOk [] (m := 16) rfl ?_
          | refine stepF_ok tabOk [] (m := 3) rfl ?_
          | refine stepF_ok tabOk [] (m := 0) rfl ?_
          | refine ev_load rfl rfl tabOk rfl rfl (by assumption) ?_
          | refine ev_loadB rfl rfl tabOk rfl rfl (by assumption) (by rfl) ?_
          | refine ev_loadAggB rfl rfl tabOk rfl rfl (by assumption) (by rfl) ?_
          | refine ev_arith rfl rfl rfl rfl rfl (by simp only [lowK, hiK]; omega) ?_
          | refine ev_rem rfl rfl rfl rfl (by omega) (by omega) ?_
          | refine ev_quo rfl rfl rfl rfl (by omega) (by omega) (by simp only [hiK]; omega) ?_
          | refine ev_index rfl rfl tabOk rfl rfl rfl (by omega) (by omega) ?_
          | refine ev_indexA rfl rfl tabOk rfl rfl rfl (by omega) (by omega) rfl ?_
          | refine ev_convB rfl rfl tabOk rfl rfl rfl rfl ?_
          | refine ev_conv rfl rfl tabOk rfl rfl rfl (by simp only [lowK, hiK]; omega) ?_)
        refine ev_concat rfl rfl rfl rfl (by omega) ?_
        rw [← hB0, ← htk] at hI
        repeat (first
          | refine stepF_ok tabOk [] (m := 400) rfl ?_
          | refine stepF_ok tabOk [] (m := 16) rfl ?_
          | refine stepF_ok tabOk [] (m := 3) rfl ?_
          | refine stepF_ok tabOk [] (m := 0) rfl ?_
          | refine ev_load rfl rfl tabOk rfl rfl (by assumption) ?_
          | refine ev_loadB rfl rfl tabOk rfl rfl (by assumption) (by rfl) ?_
          | refine ev_loadAggB rfl rfl tabOk rfl rfl (by assumption) (by rfl) ?_
          | refine ev_arith rfl rfl rfl rfl rfl (by simp only [lowK, hiK]; omega) ?_
          | refine ev_rem rfl rfl rfl rfl (by omega) (by omega) ?_
          | refine ev_quo rfl rfl rfl rfl (by omega) (by omega) (by simp only [hiK]; omega) ?_
          | refine ev_index rfl rfl tabOk rfl rfl rfl (by omega) (by omega) ?_
          | refine ev_indexA rfl rfl tabOk rfl rfl rfl (by omega) (by omega) rfl ?_
          | refine ev_convB rfl rfl tabOk rfl rfl rfl rfl ?_
          | refine ev_conv rfl rfl tabOk rfl rfl rfl (by simp only [lowK, hiK]; omega) ?_)
        refine ev_out () hI ⟨rfl, rfl, ?_, rfl, trivial⟩
        rw [htk, hB0]; rfl
      · repeat (first
          | refine stepF_ok tabOk [] (m := 400) rfl ?_
          | refine stepF_ok tabOk [] (m := 16) rfl ?_
          | refine stepF_ok tabOk [] (m := 3) rfl ?_
          | refine stepF_ok tabOk [] (m := 0) rfl ?_
          | refine ev_load rfl rfl tabOk rfl rfl (by assumption) ?_
          | refine ev_loadB rfl rfl tabOk rfl rfl (by assumption) (by rfl) ?_
          | refine ev_loadAggB rfl rfl tabOk rfl rfl (by assumption) (by rfl) ?_
          | refine ev_arith rfl rfl rfl rfl rfl (by simp only [lowK, hiK]; omega) ?_
          | refine ev_rem rfl rfl rfl rfl (by omega) (by omega) ?_
          | refine ev_quo rfl rfl rfl rfl (by omega) (by omega) (by simp only [hiK]; omega) ?_
          | refine ev_index rfl rfl tabOk rfl rfl rfl (by omega) (by omega) ?_
          | refine ev_indexA rfl rfl tabOk rfl rfl rfl (by omega) (by omega) rfl ?_
          | refine ev_convB rfl rfl tabOk rfl rfl rfl rfl ?_
          | refine ev_conv rfl rfl tabOk rfl rfl rfl (by simp only [lowK, hiK]; omega) ?_)
        refine ev_condD rfl (fun h1 => ?_) (fun h1 => ?_)
        · have hB1 : opB x = rowB x.row := by unfold opB; rw [if_neg h0, if_pos h1]
          repeat (first
            | refine stepF_ok tabOk [] (m := 400) rfl ?_
            | refine stepF_ok tabOk [] (m := 16) rfl ?_
            | refine stepF_ok tabOk [] (m := 3) rfl ?_
            | refine stepF_ok tabOk [] (m := 0) rfl ?_
            | refine ev_load rfl rfl tabOk rfl rfl (by assumption) ?_
            | refine ev_loadB rfl rfl tabOk rfl rfl (by assumption) (by rfl) ?_
            | refine ev_loadAggB rfl rfl tabOk rfl rfl (by assumption) (by rfl) ?_
            | refine ev_arith rfl rfl rfl rfl rfl (by simp only [lowK, hiK]; omega) ?_
            | refine ev_rem rfl rfl rfl rfl (by omega) (by omega) ?_
            | refine ev_quo rfl rfl rfl rfl (by omega) (by omega) (by simp only [hiK]; omega) ?_
            | refine ev_index rfl rfl tabOk rfl rfl rfl (by omega) (by omega) ?_
            | refine ev_indexA rfl rfl tabOk rfl rfl rfl (by omega) (by omega) rfl ?_
            | refine ev_convB rfl rfl tabOk rfl rfl rfl rfl ?_
            | refine ev_conv rfl rfl tabOk rfl rfl rfl (by simp only [lowK, hiK]; omega) ?_)
          refine ev_buildSlice tabOk rfl rfl rfl inf37 rfl rfl rfl (by simp) rfl (fun q w6 hq hb6 hf6 => ?_)
          have ho6 := own_of_blk (m := 0) (sz := 1) hb6 rfl (by omega)
          have hB := hB.fr0 hf6
          have hWr6 := hWr4.fr0 hf6
          have hrow6 := (hrow.fr0 hfW4).fr0 hf6
          repeat (first
            | refine stepF_ok tabOk [] (m := 400) rfl ?_
            | refine stepF_ok tabOk [] (m := 16) rfl ?_
            | refine stepF_ok tabOk [] (m := 3) rfl ?_
            | refine stepF_ok tabOk [] (m := 0) rfl ?_
            | refine ev_load rfl rfl tabOk rfl rfl (by assumption) ?_
            | refine ev_loadB rfl rfl tabOk rfl rfl (by assumption) (by rfl) ?_
            | refine ev_loadAggB rfl rfl tabOk rfl rfl (by assumption) (by rfl) ?_
            | refine ev_arith rfl rfl rfl rfl rfl (by simp only [lowK, hiK]; omega) ?_
            | refine ev_rem rfl rfl rfl rfl (by omega) (by omega) ?_
            | refine ev_quo rfl rfl rfl rfl (by omega) (by omega) (by simp only [hiK]; omega) ?_
            | refine ev_index rfl rfl tabOk rfl rfl rfl (by omega) (by omega) ?_
            | refine ev_indexA rfl rfl tabOk rfl rfl rfl (by omega) (by omega) rfl ?_
            | refine ev_convB rfl rfl tabOk rfl rfl rfl rfl ?_
            | refine ev_conv rfl rfl tabOk rfl rfl rfl (by simp only [lowK, hiK]; omega) ?_)
          refine ev_append tabOk rfl rfl rfl inf37 rfl (by omega) rfl rfl ho6 hrow6 (by simp) (by simp [Value.oneCell']) (by omega) (fun v7 w7 ho7 hf7 hn7 => ?_)
          have ho7 : Own w7 37 1 v7 x.row.length (x.row.map iv) := by rw [Nat.zero_add] at ho7; exact ho7
          obtain ⟨A7, c7, rfl, hc7, _⟩ := ho7.slice
          have hqb : ∀ a, A7 = some a → w5.heap.size ≤ a.block := fun a ha => by
            subst ha
            rcases hn7 with h | h
            · simp only [Value.ownBlock, Option.some.injEq] at h; omega
            · simp only [Value.ownBlock, Option.some.injEq] at h; have := hf6.size; omega
          have hf7' : Fr no w5 w7 := hf6.trans hf7 (fun u hu e => by simp only [Value.ownBlock, Option.some.injEq] at e; omega)
          have hB := (‹Blk w5 b _ _›).fr0 hf7'
          have hWr7 := hWr4.fr0 hf7'
          repeat (first
            | refine stepF_ok tabOk [] (m := 400) rfl ?_
            | refine stepF_ok tabOk [] (m := 16) rfl ?_
            | refine stepF_ok tabOk [] (m := 3) rfl ?_
            | refine stepF_ok tabOk [] (m := 0) rfl ?_
            | refine ev_load rfl rfl tabOk rfl rfl (by assumption) ?_
            | refine ev_loadB rfl rfl tabOk rfl rfl (by assumption) (by rfl) ?_
            | refine ev_loadAggB rfl rfl tabOk rfl rfl (by assumption) (by rfl) ?_
            | refine ev_arith rfl rfl rfl rfl rfl (by simp only [lowK, hiK]; omega) ?_
            | refine ev_rem rfl rfl rfl rfl (by omega) (by omega) ?_
            | refine ev_quo rfl rfl rfl rfl (by omega) (by omega) (by simp only [hiK]; omega) ?_
            | refine ev_index rfl rfl tabOk rfl rfl rfl (by omega) (by omega) ?_
            | refine ev_indexA rfl rfl tabOk rfl rfl rfl (by omega) (by omega) rfl ?_
            | refine ev_convB rfl rfl tabOk rfl rfl rfl rfl ?_
            | refine ev_conv rfl rfl tabOk rfl rfl rfl (by simp only [lowK, hiK]; omega) ?_)
          refine ev_call rfl rfl rfl (wrRow p v _ Ar cr x.row _ hWr7 (by omega) (hrow.fr0 (hfW4.tr hf7')) (fun hne a ha => ?_)) (fun r w8 hr => ?_)
          · have := hrb hne a ha
            exact ⟨by omega, fun e => by have := hgW _ e; omega⟩
          have hI := WI.step (hfW4.tr hf7') hpW hgW hr
          obtain ⟨v8, hW8, hf8, hn8⟩ := hr
          obtain ⟨_, _, hfW8, _⟩ := id hI
          have hB := (‹Blk w7 b _ _›).fr hf8 hob
          have hc8 := hc7.fr hf8 (fun a ha h => by
            have h5 := hqb a ha
            rcases h with h | h
            · omega
            · have := hg4 _ h; omega)
          repeat (first
            | refine stepF_ok tabOk [] (m := 400) rfl ?_
            | refine stepF_ok tabOk [] (m := 16) rfl ?_
            | refine stepF_ok tabOk [] (m := 3) rfl ?_
            | refine stepF_ok tabOk [] (m := 0) rfl ?_
            | refine ev_load rfl rfl tabOk rfl rfl (by assumption) ?_
            | refine ev_loadB rfl rfl tabOk rfl rfl (by assumption) (by rfl) ?_
            | refine ev_loadAggB rfl rfl tabOk rfl rfl (by assumption) (by rfl) ?_
            | refine ev_arith rfl rfl rfl rfl rfl (by simp only [lowK, hiK]; omega) ?_
            | refine ev_rem rfl rfl rfl rfl (by omega) (by omega) ?_
            | refine ev_quo rfl rfl rfl rfl (by omega) (by omega) (by simp only [hiK]; omega) ?_
            | refine ev_index rfl rfl tabOk rfl rfl rfl (by omega) (by omega) ?_
            | refine ev_indexA rfl rfl tabOk rfl rfl rfl (by omega) (by omega) rfl ?_
            | refine ev_convB rfl rfl tabOk rfl rfl rfl rfl ?_
            | refine ev_conv rfl rfl tabOk rfl rfl rfl (by simp only [lowK, hiK]; omega) ?_)
          refine ev_call rfl rfl rfl (rowsC Ar A7 x.row x.row cr c7 _ (hrow.fr0 hfW8) hc8 (by omega)) (fun r w9 hr => ?_)
          obtain ⟨rfl, hf9⟩ := hr
          rw [show decide (x.row = x.row) = true from decide_eq_true rfl]
          repeat (first
            | refine stepF_ok tabOk [] (m := 400) rfl ?_
            | refine stepF_ok tabOk [] (m := 16) rfl ?_
            | refine stepF_ok tabOk [] (m := 3) rfl ?_
            | refine stepF_ok tabOk [] (m := 0) rfl ?_
            | refine ev_load rfl rfl tabOk rfl rfl (by assumption) ?_
            | refine ev_loadB rfl rfl tabOk rfl rfl (by assumption) (by rfl) ?_
            | refine ev_loadAggB rfl rfl tabOk rfl rfl (by assumption) (by rfl) ?_
            | refine ev_arith rfl rfl rfl rfl rfl (by simp only [lowK, hiK]; omega) ?_
            | refine ev_rem rfl rfl rfl rfl (by omega) (by omega) ?_
            | refine ev_quo rfl rfl rfl rfl (by omega) (by omega) (by simp only [hiK]; omega) ?_
            | refine ev_index rfl rfl tabOk rfl rfl rfl (by omega) (by omega) ?_
            | refine ev_indexA rfl rfl tabOk rfl rfl rfl (by omega) (by omega) rfl ?_
            | refine ev_convB rfl rfl tabOk rfl rfl rfl rfl ?_
            | refine ev_conv rfl rfl tabOk rfl rfl rfl (by simp only [lowK, hiK]; omega) ?_)
          refine ev_call rfl rfl rfl (refRow A7 c7 x.row _ (by omega) (hc8.fr0 hf9)) (fun r w10 hr => ?_)
          obtain ⟨rfl, hf10⟩ := hr
          have hI := (hI.tr hf9).tr hf10
          repeat (first
            | refine stepF_ok tabOk [] (m := 400) rfl ?_
            | refine stepF_ok tabOk [] (m := 16) rfl ?_
            | refine stepF_ok tabOk [] (m := 3) rfl ?_
            | refine stepF_ok tabOk [] (m := 0) rfl ?_
            | refine ev_load rfl rfl tabOk rfl rfl (by assumption) ?_
            | refine ev_loadB rfl rfl tabOk rfl rfl (by assumption) (by rfl) ?_
            | refine ev_loadAggB rfl rfl tabOk rfl rfl (by assumption) (by rfl) ?_
            | refine ev_arith rfl rfl rfl rfl rfl (by simp only [lowK, hiK]; omega) ?_
            | refine ev_rem rfl rfl rfl rfl (by omega) (by omega) ?_
            | refine ev_quo rfl rfl rfl rfl (by omega) (by omega) (by simp only [hiK]; omega) ?_
            | refine ev_index rfl rfl tabOk rfl rfl rfl (by omega) (by omega) ?_
            | refine ev_indexA rfl rfl tabOk rfl rfl rfl (by omega) (by omega) rfl ?_
            | refine ev_convB rfl rfl tabOk rfl rfl rfl rfl ?_
            | refine ev_conv rfl rfl tabOk rfl rfl rfl (by simp only [lowK, hiK]; omega) ?_)
          refine ev_concat rfl rfl rfl rfl (by simp [rowB]; omega) ?_
          rw [← hB1, ← htk] at hI
          repeat (first
            | refine stepF_ok tabOk [] (m := 400) rfl ?_
            | refine stepF_ok tabOk [] (m := 16) rfl ?_
            | refine stepF_ok tabOk [] (m := 3) rfl ?_
            | refine stepF_ok tabOk [] (m := 0) rfl ?_
            | refine ev_load rfl rfl tabOk rfl rfl (by assumption) ?_
            | refine ev_loadB rfl rfl tabOk rfl rfl (by assumption) (by rfl) ?_
            | refine ev_loadAggB rfl rfl tabOk rfl rfl (by assumption) (by rfl) ?_
            | refine ev_arith rfl rfl rfl rfl rfl (by simp only [lowK, hiK]; omega) ?_
            | refine ev_rem rfl rfl rfl rfl (by omega) (by omega) ?_
            | refine ev_quo rfl rfl rfl rfl (by omega) (by omega) (by simp only [hiK]; omega) ?_
            | refine ev_index rfl rfl tabOk rfl rfl rfl (by omega) (by omega) ?_
            | refine ev_indexA rfl rfl tabOk rfl rfl rfl (by omega) (by omega) rfl ?_
            | refine ev_convB rfl rfl tabOk rfl rfl rfl rfl ?_
            | refine ev_conv rfl rfl tabOk rfl rfl rfl (by simp only [lowK, hiK]; omega) ?_)
          refine ev_out () hI ⟨rfl, rfl, ?_, rfl, trivial⟩
          rw [htk, hB1]; rfl
        · repeat (first
            | refine stepF_ok tabOk [] (m := 400) rfl ?_
            | refine stepF_ok tabOk [] (m := 16) rfl ?_
            | refine stepF_ok tabOk [] (m := 3) rfl ?_
            | refine stepF_ok tabOk [] (m := 0) rfl ?_
            | refine ev_load rfl rfl tabOk rfl rfl (by assumption) ?_
            | refine ev_loadB rfl rfl tabOk rfl rfl (by assumption) (by rfl) ?_
            | refine ev_loadAggB rfl rfl tabOk rfl rfl (by assumption) (by rfl) ?_
            | refine ev_arith rfl rfl rfl rfl rfl (by simp only [lowK, hiK]; omega) ?_
            | refine ev_rem rfl rfl rfl rfl (by omega) (by omega) ?_
            | refine ev_quo rfl rfl rfl rfl (by omega) (by omega) (by simp only [hiK]; omega) ?_
            | refine ev_index rfl rfl tabOk rfl rfl rfl (by omega) (by omega) ?_
            | refine ev_indexA rfl rfl tabOk rfl rfl rfl (by omega) (by omega) rfl ?_
            | refine ev_convB rfl rfl tabOk rfl rfl rfl rfl ?_
            | refine ev_conv rfl rfl tabOk rfl rfl rfl (by simp only [lowK, hiK]; omega) ?_)
          refine ev_condD rfl (fun h2 => ?_) (fun h2 => ?_)
          · have hB2 : opB x = x.text := by unfold opB; rw [if_neg h0, if_neg h1, if_pos h2]
            repeat (first
              | refine stepF_ok tabOk [] (m := 400) rfl ?_
              | refine stepF_ok tabOk [] (m := 16) rfl ?_
              | refine stepF_ok tabOk [] (m := 3) rfl ?_
              | refine stepF_ok tabOk [] (m := 0) rfl ?_
              | refine ev_load rfl rfl tabOk rfl rfl (by assumption) ?_
              | refine ev_loadB rfl rfl tabOk rfl rfl (by assumption) (by rfl) ?_
              | refine ev_loadAggB rfl rfl tabOk rfl rfl (by assumption) (by rfl) ?_
              | refine ev_arith rfl rfl rfl rfl rfl (by simp only [lowK, hiK]; omega) ?_
              | refine ev_rem rfl rfl rfl rfl (by omega) (by omega) ?_
              | refine ev_quo rfl rfl rfl rfl (by omega) (by omega) (by simp only [hiK]; omega) ?_
              | refine ev_index rfl rfl tabOk rfl rfl rfl (by omega) (by omega) ?_
              | refine ev_indexA rfl rfl tabOk rfl rfl rfl (by omega) (by omega) rfl ?_
              | refine ev_convB rfl rfl tabOk rfl rfl rfl rfl ?_
              | refine ev_conv rfl rfl tabOk rfl rfl rfl (by simp only [lowK, hiK]; omega) ?_)
            refine ev_call rfl rfl rfl (wrRaw p v _ x.text _ hWr4 (by omega)) (fun r w6 hr => ?_)
            have hI := WI.step hfW4 hpW hgW hr
            obtain ⟨v6, hW6, hf6, hn6⟩ := hr
            have hB := (‹Blk w5 b _ _›).fr hf6 hob
            repeat (first
              | refine stepF_ok tabOk [] (m := 400) rfl ?_
              | refine stepF_ok tabOk [] (m := 16) rfl ?_
              | refine stepF_ok tabOk [] (m := 3) rfl ?_
              | refine stepF_ok tabOk [] (m := 0) rfl ?_
              | refine ev_load rfl rfl tabOk rfl rfl (by assumption) ?_
              | refine ev_loadB rfl rfl tabOk rfl rfl (by assumption) (by rfl) ?_
              | refine ev_loadAggB rfl rfl tabOk rfl rfl (by assumption) (by rfl) ?_
              | refine ev_arith rfl rfl rfl rfl rfl (by simp only [lowK, hiK]; omega) ?_
              | refine ev_rem rfl rfl rfl rfl (by omega) (by omega) ?_
              | refine ev_quo rfl rfl rfl rfl (by omega) (by omega) (by simp only [hiK]; omega) ?_
              | refine ev_index rfl rfl tabOk rfl rfl rfl (by omega) (by omega) ?_
              | refine ev_indexA rfl rfl tabOk rfl rfl rfl (by omega) (by omega) rfl ?_
              | refine ev_convB rfl rfl tabOk rfl rfl rfl rfl ?_
              | refine ev_conv rfl rfl tabOk rfl rfl rfl (by simp only [lowK, hiK]; omega) ?_)
            refine ev_concat rfl rfl rfl rfl (by omega) ?_
            rw [← hB2, ← htk] at hI
            repeat (first
              | refine stepF_ok tabOk [] (m := 400) rfl ?_
              | refine stepF_ok tabOk [] (m := 16) rfl ?_
              | refine stepF_ok tabOk [] (m := 3) rfl ?_
              | refine stepF_ok tabOk [] (m := 0) rfl ?_
              | refine ev_load rfl rfl tabOk rfl rfl (by assumption) ?_
              | refine ev_loadB rfl rfl tabOk rfl rfl (by assumption) (by rfl) ?_
              | refine ev_loadAggB rfl rfl tabOk rfl rfl (by assumption) (by rfl) ?_
              | refine ev_arith rfl rfl rfl rfl rfl (by simp only [lowK, hiK]; omega) ?_
              | refine ev_rem rfl rfl rfl rfl (by omega) (by omega) ?_
              | refine ev_quo rfl rfl rfl rfl (by omega) (by omega) (by simp only [hiK]; omega) ?_
              | refine ev_index rfl rfl tabOk rfl rfl rfl (by omega) (by omega) ?_
              | refine ev_indexA rfl rfl tabOk rfl rfl rfl (by omega) (by omega) rfl ?_
              | refine ev_convB rfl rfl tabOk rfl rfl rfl rfl ?_
              | refine ev_conv rfl rfl tabOk rfl rfl rfl (by simp only [lowK, hiK]; omega) ?_)
            refine ev_out () hI ⟨rfl, rfl, ?_, rfl, trivial⟩
            rw [htk, hB2]; rfl
          · have hB3 : opB x = txtB x.text := by unfold opB; rw [if_neg h0, if_neg h1, if_neg h2]
            repeat (first
              | refine stepF_ok tabOk [] (m := 400) rfl ?_
              | refine stepF_ok tabOk [] (m := 16) rfl ?_
              | refine stepF_ok tabOk [] (m := 3) rfl ?_
              | refine stepF_ok tabOk [] (m := 0) rfl ?_
              | refine ev_load rfl rfl tabOk rfl rfl (by assumption) ?_
              | refine ev_loadB rfl rfl tabOk rfl rfl (by assumption) (by rfl) ?_
              | refine ev_loadAggB rfl rfl tabOk rfl rfl (by assumption) (by rfl) ?_
              | refine ev_arith rfl rfl rfl rfl rfl (by simp only [lowK, hiK]; omega) ?_
              | refine ev_rem rfl rfl rfl rfl (by omega) (by omega) ?_
              | refine ev_quo rfl rfl rfl rfl (by omega) (by omega) (by simp only [hiK]; omega) ?_
              | refine ev_index rfl rfl tabOk rfl rfl rfl (by omega) (by omega) ?_
              | refine ev_indexA rfl rfl tabOk rfl rfl rfl (by omega) (by omega) rfl ?_
              | refine ev_convB rfl rfl tabOk rfl rfl rfl rfl ?_
              | refine ev_conv rfl rfl tabOk rfl rfl rfl (by simp only [lowK, hiK]; omega) ?_)
            refine ev_call rfl rfl rfl (wrText p v _ x.text _ hWr4 (by omega) (by omega)) (fun r w6 hr => ?_)
            obtain ⟨rfl, hr⟩ := hr
            have hI := WI.step hfW4 hpW hgW hr
            obtain ⟨v6, hW6, hf6, hn6⟩ := hr
            have hB := (‹Blk w5 b _ _›).fr hf6 hob
            repeat (first
              | refine stepF_ok tabOk [] (m := 400) rfl ?_
              | refine stepF_ok tabOk [] (m := 16) rfl ?_
              | refine stepF_ok tabOk [] (m := 3) rfl ?_
              | refine stepF_ok tabOk [] (m := 0) rfl ?_
              | refine ev_load rfl rfl tabOk rfl rfl (by assumption) ?_
              | refine ev_loadB rfl rfl tabOk rfl rfl (by assumption) (by rfl) ?_
              | refine ev_loadAggB rfl rfl tabOk rfl rfl (by assumption) (by rfl) ?_
              | refine ev_arith rfl rfl rfl rfl rfl (by simp only [lowK, hiK]; omega) ?_
              | refine ev_rem rfl rfl rfl rfl (by omega) (by omega) ?_
              | refine ev_quo rfl rfl rfl rfl (by omega) (by omega) (by simp only [hiK]; omega) ?_
              | refine ev_index rfl rfl tabOk rfl rfl rfl (by omega) (by omega) ?_
              | refine ev_indexA rfl rfl tabOk rfl rfl rfl (by omega) (by omega) rfl ?_
              | refine ev_convB rfl rfl tabOk rfl rfl rfl rfl ?_
              | refine ev_conv rfl rfl tabOk rfl rfl rfl (by simp only [lowK, hiK]; omega) ?_)
            refine ev_call rfl rfl rfl (refText x.text _ (by omega)) (fun r w7 hr => ?_)
            obtain ⟨rfl, hf7⟩ := hr
            have hI := hI.tr hf7
            repeat (first
              | refine stepF_ok tabOk [] (m := 400) rfl ?_
              | refine stepF_ok tabOk [] (m := 16) rfl ?_
              | refine stepF_ok tabOk [] (m := 3) rfl ?_
              | refine stepF_ok tabOk [] (m := 0) rfl ?_
              | refine ev_load rfl rfl tabOk rfl rfl (by assumption) ?_
              | refine ev_loadB rfl rfl tabOk rfl rfl (by assumption) (by rfl) ?_
              | refine ev_loadAggB rfl rfl tabOk rfl rfl (by assumption) (by rfl) ?_
              | refine ev_arith rfl rfl rfl rfl rfl (by simp only [lowK, hiK]; omega) ?_
              | refine ev_rem rfl rfl rfl rfl (by omega) (by omega) ?_
              | refine ev_quo rfl rfl rfl rfl (by omega) (by omega) (by simp only [hiK]; omega) ?_
              | refine ev_index rfl rfl tabOk rfl rfl rfl (by omega) (by omega) ?_
              | refine ev_indexA rfl rfl tabOk rfl rfl rfl (by omega) (by omega) rfl ?_
              | refine ev_convB rfl rfl tabOk rfl rfl rfl rfl ?_
              | refine ev_conv rfl rfl tabOk rfl rfl rfl (by simp only [lowK, hiK]; omega) ?_)
            refine ev_concat rfl rfl rfl rfl (by simp [txtB, leB_len]; omega) ?_
            have hI : WI W w7 p (opsB (ops.take (k + 1))) := by rw [htk, hB3]; exact hI
            repeat (first
              | refine stepF_ok tabOk [] (m := 400) rfl ?_
              | refine stepF_ok tabOk [] (m := 16) rfl ?_
              | refine stepF_ok tabOk [] (m := 3) rfl ?_
              | refine stepF_ok tabOk [] (m := 0) rfl ?_
              | refine ev_load rfl rfl tabOk rfl rfl (by assumption) ?_
              | refine ev_loadB rfl rfl tabOk rfl rfl (by assumption) (by rfl) ?_
              | refine ev_loadAggB rfl rfl tabOk rfl rfl (by assumption) (by rfl) ?_
              | refine ev_arith rfl rfl rfl rfl rfl (by simp only [lowK, hiK]; omega) ?_
              | refine ev_rem rfl rfl rfl rfl (by omega) (by omega) ?_
              | refine ev_quo rfl rfl rfl rfl (by omega) (by omega) (by simp only [hiK]; omega) ?_
              | refine ev_index rfl rfl tabOk rfl rfl rfl (by omega) (by omega) ?_
              | refine ev_indexA rfl rfl tabOk rfl rfl rfl (by omega) (by omega) rfl ?_
              | refine ev_convB rfl rfl tabOk rfl rfl rfl rfl ?_
              | refine ev_conv rfl rfl tabOk rfl rfl rfl (by simp only [lowK, hiK]; omega) ?_)
            refine ev_out () hI ⟨rfl, rfl, ?_, rfl, trivial⟩
            rw [htk, hB3]; rfl
    · rintro _ w6 hI
      obtain ⟨v6, hW6, hfW6, hp6, hg6⟩ := id hI
      have hlen3 := opsB_len (ops.take (k + 1))
      have hlen4 := volB_take ops (k + 1)
      repeat (first
        | refine stepF_ok tabOk [] (m := 400) rfl ?_
        | refine stepF_ok tabOk [] (m := 16) rfl ?_
        | refine stepF_ok tabOk [] (m := 3) rfl ?_
        | refine stepF_ok tabOk [] (m := 0) rfl ?_
        | refine ev_load rfl rfl tabOk rfl rfl (by assumption) ?_
        | refine ev_loadB rfl rfl tabOk rfl rfl (by assumption) (by rfl) ?_
        | refine ev_loadAggB rfl rfl tabOk rfl rfl (by assumption) (by rfl) ?_
        | refine ev_arith rfl rfl rfl rfl rfl (by simp only [lowK, hiK]; omega) ?_
        | refine ev_rem rfl rfl rfl rfl (by omega) (by omega) ?_
        | refine ev_quo rfl rfl rfl rfl (by omega) (by omega) (by simp only [hiK]; omega) ?_
        | refine ev_index rfl rfl tabOk rfl rfl rfl (by omega) (by omega) ?_
        | refine ev_indexA rfl rfl tabOk rfl rfl rfl (by omega) (by omega) rfl ?_
        | refine ev_convB rfl rfl tabOk rfl rfl rfl rfl ?_
        | refine ev_conv rfl rfl tabOk rfl rfl rfl (by simp only [lowK, hiK]; omega) ?_)
      refine ev_call rfl rfl rfl (wrLen p v6 _ _ hW6) (fun r w7 hr => ?_)
      obtain ⟨rfl, rfl⟩ := hr
      repeat (first
        | refine stepF_ok tabOk [] (m := 400) rfl ?_
        | refine stepF_ok tabOk [] (m := 16) rfl ?_
        | refine stepF_ok tabOk [] (m := 3) rfl ?_
        | refine stepF_ok tabOk [] (m := 0) rfl ?_
        | refine ev_load rfl rfl tabOk rfl rfl (by assumption) ?_
        | refine ev_loadB rfl rfl tabOk rfl rfl (by assumption) (by rfl) ?_
        | refine ev_loadAggB rfl rfl tabOk rfl rfl (by assumption) (by rfl) ?_
        | refine ev_arith rfl rfl rfl rfl rfl (by simp only [lowK, hiK]; omega) ?_
        | refine ev_rem rfl rfl rfl rfl (by omega) (by omega) ?_
        | refine ev_quo rfl rfl rfl rfl (by omega) (by omega) (by simp only [hiK]; omega) ?_
        | refine ev_index rfl rfl tabOk rfl rfl rfl (by omega) (by omega) ?_
        | refine ev_indexA rfl rfl tabOk rfl rfl rfl (by omega) (by omega) rfl ?_
        | refine ev_convB rfl rfl tabOk rfl rfl rfl rfl ?_
        | refine ev_conv rfl rfl tabOk rfl rfl rfl (by simp only [lowK, hiK]; omega) ?_)
      refine ev_guardD rfl rfl (fun h => absurd rfl h) (fun _ => ?_)
      repeat (first
        | refine stepF_ok tabOk [] (m := 400) rfl ?_
        | refine stepF_ok tabOk [] (m := 16) rfl ?_
        | refine stepF_ok tabOk [] (m := 3) rfl ?_
        | refine stepF_ok tabOk [] (m := 0) rfl ?_
        | refine ev_load rfl rfl tabOk rfl rfl (by assumption) ?_
        | refine ev_loadB rfl rfl tabOk rfl rfl (by assumption) (by rfl) ?_
        | refine ev_loadAggB rfl rfl tabOk rfl rfl (by assumption) (by rfl) ?_
        | refine ev_arith rfl rfl rfl rfl rfl (by simp only [lowK, hiK]; omega) ?_
        | refine ev_rem rfl rfl rfl rfl (by omega) (by omega) ?_
        | refine ev_quo rfl rfl rfl rfl (by omega) (by omega) (by simp only [hiK]; omega) ?_
        | refine ev_index rfl rfl tabOk rfl rfl rfl (by omega) (by omega) ?_
        | refine ev_indexA rfl rfl tabOk rfl rfl rfl (by omega) (by omega) rfl ?_
        | refine ev_convB rfl rfl tabOk rfl rfl rfl rfl ?_
        | refine ev_conv rfl rfl tabOk rfl rfl rfl (by simp only [lowK, hiK]; omega) ?_)
      refine ev_call rfl rfl rfl (wrBytes p v6 _ _ hW6) (fun r w8 hr => ?_)
      obtain ⟨rfl, rfl⟩ := hr
      repeat (first
        | refine stepF_ok tabOk [] (m := 400) rfl ?_
        | refine stepF_ok tabOk [] (m := 16) rfl ?_
        | refine stepF_ok tabOk [] (m := 3) rfl ?_
        | refine stepF_ok tabOk [] (m := 0) rfl ?_
        | refine ev_load rfl rfl tabOk rfl rfl (by assumption) ?_
        | refine ev_loadB rfl rfl tabOk rfl rfl (by assumption) (by rfl) ?_
        | refine ev_loadAggB rfl rfl tabOk rfl rfl (by assumption) (by rfl) ?_
        | refine ev_arith rfl rfl rfl rfl rfl (by simp only [lowK, hiK]; omega) ?_
        | refine ev_rem rfl rfl rfl rfl (by omega) (by omega) ?_
        | refine ev_quo rfl rfl rfl rfl (by omega) (by omega) (by simp only [hiK]; omega) ?_
        | refine ev_index rfl rfl tabOk rfl rfl rfl (by omega) (by omega) ?_
        | refine ev_indexA rfl rfl tabOk rfl rfl rfl (by omega) (by omega) rfl ?_
        | refine ev_convB rfl rfl tabOk rfl rfl rfl rfl ?_
        | refine ev_conv rfl rfl tabOk rfl rfl rfl (by simp only [lowK, hiK]; omega) ?_)
      refine ev_condD rfl (fun h => absurd rfl h) (fun _ => ?_)
      repeat (first
        | refine stepF_ok tabOk [] (m := 400) rfl ?_
        | refine stepF_ok tabOk [] (m := 16) rfl ?_
        | refine stepF_ok tabOk [] (m := 3) rfl ?_
        | refine stepF_ok tabOk [] (m := 0) rfl ?_
        | refine ev_load rfl rfl tabOk rfl rfl (by assumption) ?_
        | refine ev_loadB rfl rfl tabOk rfl rfl (by assumption) (by rfl) ?_
        | refine ev_loadAggB rfl rfl tabOk rfl rfl (by assumption) (by rfl) ?_
        | refine ev_arith rfl rfl rfl rfl rfl (by simp only [lowK, hiK]; omega) ?_
        | refine ev_rem rfl rfl rfl rfl (by omega) (by omega) ?_
        | refine ev_quo rfl rfl rfl rfl (by omega) (by omega) (by simp only [hiK]; omega) ?_
        | refine ev_index rfl rfl tabOk rfl rfl rfl (by omega) (by omega) ?_
        | refine ev_indexA rfl rfl tabOk rfl rfl rfl (by omega) (by omega) rfl ?_
        | refine ev_convB rfl rfl tabOk rfl rfl rfl rfl ?_
        | refine ev_conv rfl rfl tabOk rfl rfl rfl (by simp only [lowK, hiK]; omega) ?_)
      exact ev_next (k + 1) (by omega) ⟨by omega, hI⟩ ⟨rfl, rfl, rfl, rfl, trivial⟩
  · obtain ⟨_, _, hfW, _⟩ := hI
    repeat (first
      | refine stepF_ok tabOk [] (m := 400) rfl ?_
      | refine stepF_ok tabOk [] (m := 16) rfl ?_
      | refine stepF_ok tabOk [] (m := 3) rfl ?_
      | refine stepF_ok tabOk [] (m := 0) rfl ?_
      | refine ev_load rfl rfl tabOk rfl rfl (by assumption) ?_
      | refine ev_loadB rfl rfl tabOk rfl rfl (by assumption) (by rfl) ?_
      | refine ev_loadAggB rfl rfl tabOk rfl rfl (by assumption) (by rfl) ?_
      | refine ev_arith rfl rfl rfl rfl rfl (by simp only [lowK, hiK]; omega) ?_
      | refine ev_rem rfl rfl rfl rfl (by omega) (by omega) ?_
      | refine ev_quo rfl rfl rfl rfl (by omega) (by omega) (by simp only [hiK]; omega) ?_
      | refine ev_index rfl rfl tabOk rfl rfl rfl (by omega) (by omega) ?_
      | refine ev_indexA rfl rfl tabOk rfl rfl rfl (by omega) (by omega) rfl ?_
      | refine ev_convB rfl rfl tabOk rfl rfl rfl rfl ?_
      | refine ev_conv rfl rfl tabOk rfl rfl rfl (by simp only [lowK, hiK]; omega) ?_)
    exact ret1 (.inr rfl) rfl rfl ⟨rfl, hfW⟩
end Go.Wk.Ytihjpjpellagiaa
