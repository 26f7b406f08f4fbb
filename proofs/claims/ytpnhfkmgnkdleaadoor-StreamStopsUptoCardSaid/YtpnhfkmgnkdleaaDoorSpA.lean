/-
  StreamStops: plain facts and the walk.
-/
import Derived.Test.YtpnhfkmgnkdleaaDoorStY
import Derived.Lib.IndexMore
set_option linter.unusedVariables false
namespace Go.Wk.YtpnhfkmgnkdleaaDoor
open Go Go.Wk Go.Proofs Go.Lib

/-- a text stands in another: some beginning of that ends with it -/
theorem contains_ends {s t : List UInt8} : Lib.contains s t = true ↔ ∃ n, n ≤ s.length ∧ endsW (s.take n) t := by
  unfold Lib.contains
  rw [decide_eq_true_eq]
  constructor
  · intro h
    rcases index_spec s t with ⟨h1, _⟩ | ⟨i, h1, h2, h3, _⟩
    · omega
    · have hr := index_room s t h
      unfold occAt at h3
      obtain ⟨q, hq⟩ := List.isPrefixOf_iff_prefix.1 h3
      refine ⟨i + t.length, by omega, endsW_suf.2 ⟨s.take i, ?_⟩⟩
      rw [List.take_add, ← hq, List.take_left]
  · rintro ⟨n, hn, he⟩
    obtain ⟨q, hq⟩ := endsW_suf.1 he
    rcases index_spec s t with ⟨_, h2⟩ | ⟨i, h1, _⟩
    · have h3 := h2 q.length (by have := congrArg List.length hq; rw [List.length_take, List.length_append] at this; omega)
      have : occAt s t q.length = true := by
        unfold occAt
        refine List.isPrefixOf_iff_prefix.2 ⟨s.drop n, ?_⟩
        have e : s = (q ++ t) ++ s.drop n := by rw [← hq, List.take_append_drop]
        have e2 : s.drop q.length = ((q ++ t) ++ s.drop n).drop q.length := congrArg _ e
        rw [e2, List.append_assoc, List.drop_left]
      rw [this] at h3; cases h3
    · omega
theorem contains_no {stops : List (List UInt8)} {s : List UInt8} (h : ∀ n, n ≤ s.length → stpA stops (s.take n) < 0) {j : Nat} (hj : j < stops.length) : Lib.contains s (stops.getD j []) = false := by
  cases hc : Lib.contains s (stops.getD j []) with
  | false => rfl
  | true =>
    obtain ⟨n, hn, he⟩ := contains_ends.1 hc
    exact absurd he (stp_neg _ |>.1 (h n hn) j hj)
theorem cutN_no (stops : List (List UInt8)) (s : List UInt8) {n : Nat} (h : n < cutN stops s) : stpA stops (s.take n) < 0 := by
  have := (fst_spec (fun n => 0 ≤ stpA stops (s.take n)) (s.length + 1) 0).2.2.1 n (Nat.zero_le _) h
  omega
theorem cut_neg {stops : List (List UInt8)} {s : List UInt8} (h : cutM stops s < 0) : cutM stops s = -1 ∧ cutT stops s = s ∧ ∀ n, n ≤ s.length → stpA stops (s.take n) < 0 := by
  have hN : ¬ cutN stops s ≤ s.length := fun hle => by
    have h4 := (fst_spec (fun n => 0 ≤ stpA stops (s.take n)) (s.length + 1) 0).2.2.2 (by have : fst (fun n => 0 ≤ stpA stops (s.take n)) 0 (s.length + 1) = cutN stops s := rfl; omega)
    have h5 : 0 ≤ stpA stops (s.take (cutN stops s)) := h4
    unfold cutM at h
    rw [if_pos hle] at h
    omega
  exact ⟨by unfold cutM; rw [if_neg hN], by unfold cutT; rw [if_neg hN], fun n hn => cutN_no stops s (by omega)⟩
theorem cut_pos {stops : List (List UInt8)} {s : List UInt8} {at_ : Nat} (h : cutM stops s = at_) : at_ < stops.length ∧ ∃ i, i + (stops.getD at_ []).length ≤ s.length ∧ cutT stops s = s.take i ∧ (s.take (i + (stops.getD at_ []).length)).drop i = stops.getD at_ [] ∧ ∀ n, n < i + (stops.getD at_ []).length → stpA stops (s.take n) < 0 := by
  have hN : cutN stops s ≤ s.length := by
    by_cases hN : cutN stops s ≤ s.length
    · exact hN
    · unfold cutM at h; rw [if_neg hN] at h; omega
  have hge := cutM_ge stops s
  have hT : cutT stops s = s.take (cutN stops s - (stops.getD at_ []).length) := by unfold cutT; rw [if_pos hN, h]; rfl
  have hM : stpA stops (s.take (cutN stops s)) = at_ := by rw [← h]; unfold cutM; rw [if_pos hN]
  have he := (stp_lt stops (s.take (cutN stops s)) stops.length).2.2 (by have : stp stops (s.take (cutN stops s)) stops.length = at_ := hM; omega)
  rw [show stp stops (s.take (cutN stops s)) stops.length = at_ from hM, Int.toNat_natCast] at he
  have hl := he.1
  have hd := he.2
  rw [List.length_take, Nat.min_eq_left hN] at hl hd
  refine ⟨by omega, cutN stops s - (stops.getD at_ []).length, by omega, hT, ?_, fun n hn => cutN_no stops s (by omega)⟩
  rw [show cutN stops s - (stops.getD at_ []).length + (stops.getD at_ []).length = cutN stops s by omega]
  exact hd
/-- ahead of the cut the stop text stands nowhere -/
theorem ahead_no {stops : List (List UInt8)} {s x : List UInt8} {i k j : Nat} (hj : j < stops.length) (hx : stops.getD j [] = x) (h : ∀ n, n < i + x.length → stpA stops (s.take n) < 0) (hk : k < i) (hl : i + x.length ≤ s.length) : ¬ (s.take (k + x.length)).drop k = x := fun e => by
  have h1 := stp_neg _ |>.1 (h (k + x.length) (by omega)) j hj
  rw [hx] at h1
  refine h1 ⟨by rw [List.length_take]; omega, ?_⟩
  rw [List.length_take, Nat.min_eq_left (by omega), Nat.add_sub_cancel]
  exact e
theorem take_no {stops : List (List UInt8)} {s : List UInt8} {m : Nat} (h : ∀ n, n ≤ m → stpA stops (s.take n) < 0) {j : Nat} (hj : j < stops.length) : Lib.contains (s.take m) (stops.getD j []) = false := by
  refine contains_no (stops := stops) (fun n hn => ?_) hj
  rw [List.length_take] at hn
  rw [List.take_take, Nat.min_eq_left (by omega)]
  exact h n (by omega)

/-- the length up to which the machine's own search goes is some number -/
def ML (w : World) : Prop := ∃ m, w.cell? ⟨2, 0, none⟩ = some (.int .i64 m)
theorem ML.fr0 {w w' : World} (h : ML w) (hf : Fr no w w') : ML w' := by
  obtain ⟨m, h⟩ := h
  exact ⟨m, cell_fr h hf id⟩
theorem cContains (s t : List UInt8) (w : World) (hs : s.length < 4294967281) (hm : ML w) :
    CallsF Tryd.prog 32 [sv s, sv t] w fun r w' => r = .bool (Lib.contains s t) ∧ w' = w := by
  obtain ⟨m, hm⟩ := hm
  refine ⟨⟨_, Tryd.func32, by decide, rfl⟩, ?_⟩
  exact (Go.Proofs.Tryd.strings_Contains (sOf s) (sOf t) m w hs hm).mono fun e w' h => ⟨_, h.1, rfl, h.2⟩

set_option maxRecDepth 20000 in
set_option maxHeartbeats 2000000 in
theorem lawStops (A : Option Addr) (c : Nat) (stops : List (List UInt8)) (s : List UInt8) (w : World) (hA : Cs w A (stops.map sv)) (hn : stops.length ≤ 100000000) (hst : ∀ t ∈ stops, t.length ≤ 100000000) (hs : s.length ≤ 10000000) (hT : UT w) (hm : ML w) :
    CallsF Tryd.prog 9 [.slice A stops.length c, sv s] w fun r w' => r = .bool true ∧ Fr no w w' := by
  refine callsF Tryd.func9 rfl rfl (by decide) rfl ?_
  repeat (first
    | refine stepF_ok tabOk [] (m := 400) rfl ?_
    | refine stepF_ok tabOk [] (m := 16) rfl ?_
    | refine stepF_ok tabOk [] (m := 3) rfl ?_
    | refine stepF_ok tabOk [] (m := 0) rfl ?_
    | refine ev_load rfl rfl tabOk rfl rfl (by assumption) ?_
    | refine ev_loadB rfl rfl tabOk rfl rfl (by assumption) (by rfl) ?_
    | refine ev_loadAggB rfl rfl tabOk rfl rfl (by assumption) (by rfl) ?_
    | refine ev_arith rfl rfl rfl rfl rfl (by simp only [lowK, hiK]; omega) ?_
    | refine ev_rem rfl rfl rfl rfl (by omega) (by omega) ?_
    | refine ev_quo rfl rfl rfl rfl (by omega) (by omega) (by simp only [hiK]; omega) ?_
    | refine ev_index rfl rfl tabOk rfl rfl rfl (by omega) (by omega) ?_
    | refine ev_indexA rfl rfl tabOk rfl rfl rfl (by omega) (by omega) rfl ?_
    | refine ev_convB rfl rfl tabOk rfl rfl rfl rfl ?_
    | refine ev_conv rfl rfl tabOk rfl rfl rfl (by simp only [lowK, hiK]; omega) ?_)
  refine ev_call rfl rfl rfl (lawAwake _ hT) (fun r w1 hr => ?_)
  obtain ⟨rfl, hf1⟩ := hr
  repeat (first
    | refine stepF_ok tabOk [] (m := 400) rfl ?_
    | refine stepF_ok tabOk [] (m := 16) rfl ?_
    | refine stepF_ok tabOk [] (m := 3) rfl ?_
    | refine stepF_ok tabOk [] (m := 0) rfl ?_
    | refine ev_load rfl rfl tabOk rfl rfl (by assumption) ?_
    | refine ev_loadB rfl rfl tabOk rfl rfl (by assumption) (by rfl) ?_
    | refine ev_loadAggB rfl rfl tabOk rfl rfl (by assumption) (by rfl) ?_
    | refine ev_arith rfl rfl rfl rfl rfl (by simp only [lowK, hiK]; omega) ?_
    | refine ev_rem rfl rfl rfl rfl (by omega) (by omega) ?_
    | refine ev_quo rfl rfl rfl rfl (by omega) (by omega) (by simp only [hiK]; omega) ?_
    | refine ev_index rfl rfl tabOk rfl rfl rfl (by omega) (by omega) ?_
    | refine ev_indexA rfl rfl tabOk rfl rfl rfl (by omega) (by omega) rfl ?_
    | refine ev_convB rfl rfl tabOk rfl rfl rfl rfl ?_
    | refine ev_conv rfl rfl tabOk rfl rfl rfl (by simp only [lowK, hiK]; omega) ?_)
  refine ev_call rfl rfl rfl (sWhole A c stops s _ (hA.fr0 hf1) hn hst hs (hT.fr0 hf1)) (fun r w2 hr => ?_)
  obtain ⟨rfl, hf2⟩ := hr
  have hf02 := hf1.tr hf2
  by_cases hc : ¬ chk stops = 0
  · have hcx : ∀ n : Nat, chk stops = n → n = 140 ∨ n = 141 := fun n h => by have := chk_cases stops; omega
    obtain ⟨n, hcn⟩ : ∃ n, chk stops = n := ⟨_, rfl⟩
    have h2 := hcx n hcn
    rw [if_neg hc, if_neg hc]
    refine ev_env [(0, .slice A stops.length c), (1, sv s), (18, .tuple #[sv [], .int .i64 0, .int .i64 (chk stops)])] ⟨rfl, rfl, rfl, trivial⟩ ?_
    rcases h2 with rfl | rfl
    all_goals
      rw [hcn]
      repeat (first
        | refine stepF_ok tabOk [] (m := 400) rfl ?_
        | refine stepF_ok tabOk [] (m := 16) rfl ?_
        | refine stepF_ok tabOk [] (m := 3) rfl ?_
        | refine stepF_ok tabOk [] (m := 0) rfl ?_
        | refine ev_load rfl rfl tabOk rfl rfl (by assumption) ?_
        | refine ev_loadB rfl rfl tabOk rfl rfl (by assumption) (by rfl) ?_
        | refine ev_loadAggB rfl rfl tabOk rfl rfl (by assumption) (by rfl) ?_
        | refine ev_arith rfl rfl rfl rfl rfl (by simp only [lowK, hiK]; omega) ?_
        | refine ev_rem rfl rfl rfl rfl (by omega) (by omega) ?_
        | refine ev_quo rfl rfl rfl rfl (by omega) (by omega) (by simp only [hiK]; omega) ?_
        | refine ev_index rfl rfl tabOk rfl rfl rfl (by omega) (by omega) ?_
        | refine ev_indexA rfl rfl tabOk rfl rfl rfl (by omega) (by omega) rfl ?_
        | refine ev_convB rfl rfl tabOk rfl rfl rfl rfl ?_
        | refine ev_conv rfl rfl tabOk rfl rfl rfl (by simp only [lowK, hiK]; omega) ?_)
      refine ev_call rfl rfl rfl (refCheck A c stops _ (hA.fr0 hf02) hn hst) (fun r w3 hr => ?_)
      obtain ⟨rfl, hf3⟩ := hr
      rw [hcn]
      repeat (first
        | refine stepF_ok tabOk [] (m := 400) rfl ?_
        | refine stepF_ok tabOk [] (m := 16) rfl ?_
        | refine stepF_ok tabOk [] (m := 3) rfl ?_
        | refine stepF_ok tabOk [] (m := 0) rfl ?_
        | refine ev_load rfl rfl tabOk rfl rfl (by assumption) ?_
        | refine ev_loadB rfl rfl tabOk rfl rfl (by assumption) (by rfl) ?_
        | refine ev_loadAggB rfl rfl tabOk rfl rfl (by assumption) (by rfl) ?_
        | refine ev_arith rfl rfl rfl rfl rfl (by simp only [lowK, hiK]; omega) ?_
        | refine ev_rem rfl rfl rfl rfl (by omega) (by omega) ?_
        | refine ev_quo rfl rfl rfl rfl (by omega) (by omega) (by simp only [hiK]; omega) ?_
        | refine ev_index rfl rfl tabOk rfl rfl rfl (by omega) (by omega) ?_
        | refine ev_indexA rfl rfl tabOk rfl rfl rfl (by omega) (by omega) rfl ?_
        | refine ev_convB rfl rfl tabOk rfl rfl rfl rfl ?_
        | refine ev_conv rfl rfl tabOk rfl rfl rfl (by simp only [lowK, hiK]; omega) ?_)
      exact ret1 (.inr rfl) rfl rfl ⟨rfl, hf02.tr hf3⟩
  have hc := Decidable.not_not.1 hc
  rw [if_pos hc, if_pos hc, hc]
  have hok := (chk_0 hc).2
  have hA2 := hA.fr0 hf02
  have hm2 := hm.fr0 hf02
  have hT2 := hT.fr0 hf02
  have hct := cutT_le stops s
  have hcg := cutM_ge stops s
  repeat (first
    | refine stepF_ok tabOk [] (m := 400) rfl ?_
    | refine stepF_ok tabOk [] (m := 16) rfl ?_
    | refine stepF_ok tabOk [] (m := 3) rfl ?_
    | refine stepF_ok tabOk [] (m := 0) rfl ?_
    | refine ev_load rfl rfl tabOk rfl rfl (by assumption) ?_
    | refine ev_loadB rfl rfl tabOk rfl rfl (by assumption) (by rfl) ?_
    | refine ev_loadAggB rfl rfl tabOk rfl rfl (by assumption) (by rfl) ?_
    | refine ev_arith rfl rfl rfl rfl rfl (by simp only [lowK, hiK]; omega) ?_
    | refine ev_rem rfl rfl rfl rfl (by omega) (by omega) ?_
    | refine ev_quo rfl rfl rfl rfl (by omega) (by omega) (by simp only [hiK]; omega) ?_
    | refine ev_index rfl rfl tabOk rfl rfl rfl (by omega) (by omega) ?_
    | refine ev_indexA rfl rfl tabOk rfl rfl rfl (by omega) (by omega) rfl ?_
    | refine ev_convB rfl rfl tabOk rfl rfl rfl rfl ?_
    | refine ev_conv rfl rfl tabOk rfl rfl rfl (by simp only [lowK, hiK]; omega) ?_)
  refine ev_loop (α := Nat) (fun k => [(0, .slice A stops.length c), (1, sv s), (5, sv (clean (cutT stops s))), (6, .int .i64 (cutM stops s)), (32, .slice A stops.length c), (33, .int .i64 stops.length), (34, .int .i64 k)])
    (fun k w' => k ≤ stops.length ∧ w' = w2) (fun k => stops.length - k) 0 ⟨rfl, rfl, rfl, rfl, rfl, rfl, rfl, trivial⟩ ⟨Nat.zero_le _, rfl⟩ ?_
  rintro k w3 ⟨hk, rfl⟩
  repeat (first
    | refine stepF_ok tabOk [] (m := 400) rfl ?_
    | refine stepF_ok tabOk [] (m := 16) rfl ?_
    | refine stepF_ok tabOk [] (m := 3) rfl ?_
    | refine stepF_ok tabOk [] (m := 0) rfl ?_
    | refine ev_load rfl rfl tabOk rfl rfl (by assumption) ?_
    | refine ev_loadB rfl rfl tabOk rfl rfl (by assumption) (by rfl) ?_
    | refine ev_loadAggB rfl rfl tabOk rfl rfl (by assumption) (by rfl) ?_
    | refine ev_arith rfl rfl rfl rfl rfl (by simp only [lowK, hiK]; omega) ?_
    | refine ev_rem rfl rfl rfl rfl (by omega) (by omega) ?_
    | refine ev_quo rfl rfl rfl rfl (by omega) (by omega) (by simp only [hiK]; omega) ?_
    | refine ev_index rfl rfl tabOk rfl rfl rfl (by omega) (by omega) ?_
    | refine ev_indexA rfl rfl tabOk rfl rfl rfl (by omega) (by omega) rfl ?_
    | refine ev_convB rfl rfl tabOk rfl rfl rfl rfl ?_
    | refine ev_conv rfl rfl tabOk rfl rfl rfl (by simp only [lowK, hiK]; omega) ?_)
  refine ev_condD rfl (fun hlt => ?_) (fun hlt => ?_)
  · have hk1 : k < stops.length := by omega
    obtain ⟨g, o, e1, hcx⟩ := strs_at hA2 hk1
    subst e1
    have hxl := hst _ (getD_mem' hk1)
    repeat (first
      | refine stepF_ok tabOk [] (m := 400) rfl ?_
      | refine stepF_ok tabOk [] (m := 16) rfl ?_
      | refine stepF_ok tabOk [] (m := 3) rfl ?_
      | refine stepF_ok tabOk [] (m := 0) rfl ?_
      | refine ev_load rfl rfl tabOk rfl rfl (by assumption) ?_
      | refine ev_loadB rfl rfl tabOk rfl rfl (by assumption) (by rfl) ?_
      | refine ev_loadAggB rfl rfl tabOk rfl rfl (by assumption) (by rfl) ?_
      | refine ev_arith rfl rfl rfl rfl rfl (by simp only [lowK, hiK]; omega) ?_
      | refine ev_rem rfl rfl rfl rfl (by omega) (by omega) ?_
      | refine ev_quo rfl rfl rfl rfl (by omega) (by omega) (by simp only [hiK]; omega) ?_
      | refine ev_index rfl rfl tabOk rfl rfl rfl (by omega) (by omega) ?_
      | refine ev_indexA rfl rfl tabOk rfl rfl rfl (by omega) (by omega) rfl ?_
      | refine ev_convB rfl rfl tabOk rfl rfl rfl rfl ?_
      | refine ev_conv rfl rfl tabOk rfl rfl rfl (by simp only [lowK, hiK]; omega) ?_)
    refine ev_indexAddr (len := stops.length) (i := k) rfl rfl tabOk rfl rfl rfl (by omega) (by omega) ?_
    repeat (first
      | refine stepF_ok tabOk [] (m := 400) rfl ?_
      | refine stepF_ok tabOk [] (m := 16) rfl ?_
      | refine stepF_ok tabOk [] (m := 3) rfl ?_
      | refine stepF_ok tabOk [] (m := 0) rfl ?_
      | refine ev_load rfl rfl tabOk rfl rfl (by assumption) ?_
      | refine ev_loadB rfl rfl tabOk rfl rfl (by assumption) (by rfl) ?_
      | refine ev_loadAggB rfl rfl tabOk rfl rfl (by assumption) (by rfl) ?_
      | refine ev_arith rfl rfl rfl rfl rfl (by simp only [lowK, hiK]; omega) ?_
      | refine ev_rem rfl rfl rfl rfl (by omega) (by omega) ?_
      | refine ev_quo rfl rfl rfl rfl (by omega) (by omega) (by simp only [hiK]; omega) ?_
      | refine ev_index rfl rfl tabOk rfl rfl rfl (by omega) (by omega) ?_
      | refine ev_indexA rfl rfl tabOk rfl rfl rfl (by omega) (by omega) rfl ?_
      | refine ev_convB rfl rfl tabOk rfl rfl rfl rfl ?_
      | refine ev_conv rfl rfl tabOk rfl rfl rfl (by simp only [lowK, hiK]; omega) ?_)
    refine ev_guardD rfl rfl (fun hneg => ?_) (fun hneg => ?_)
    · obtain ⟨h1, h2, h3⟩ := cut_neg hneg
      repeat (first
        | refine stepF_ok tabOk [] (m := 400) rfl ?_
        | refine stepF_ok tabOk [] (m := 16) rfl ?_
        | refine stepF_ok tabOk [] (m := 3) rfl ?_
        | refine stepF_ok tabOk [] (m := 0) rfl ?_
        | refine ev_load rfl rfl tabOk rfl rfl (by assumption) ?_
        | refine ev_loadB rfl rfl tabOk rfl rfl (by assumption) (by rfl) ?_
        | refine ev_loadAggB rfl rfl tabOk rfl rfl (by assumption) (by rfl) ?_
        | refine ev_arith rfl rfl rfl rfl rfl (by simp only [lowK, hiK]; omega) ?_
        | refine ev_rem rfl rfl rfl rfl (by omega) (by omega) ?_
        | refine ev_quo rfl rfl rfl rfl (by omega) (by omega) (by simp only [hiK]; omega) ?_
        | refine ev_index rfl rfl tabOk rfl rfl rfl (by omega) (by omega) ?_
        | refine ev_indexA rfl rfl tabOk rfl rfl rfl (by omega) (by omega) rfl ?_
        | refine ev_convB rfl rfl tabOk rfl rfl rfl rfl ?_
        | refine ev_conv rfl rfl tabOk rfl rfl rfl (by simp only [lowK, hiK]; omega) ?_)
      refine ev_call rfl rfl rfl (cContains s _ _ (by omega) hm2) (fun r w4 hr => ?_)
      obtain ⟨rfl, rfl⟩ := hr
      rw [contains_no h3 hk1]
      repeat (first
        | refine stepF_ok tabOk [] (m := 400) rfl ?_
        | refine stepF_ok tabOk [] (m := 16) rfl ?_
        | refine stepF_ok tabOk [] (m := 3) rfl ?_
        | refine stepF_ok tabOk [] (m := 0) rfl ?_
        | refine ev_load rfl rfl tabOk rfl rfl (by assumption) ?_
        | refine ev_loadB rfl rfl tabOk rfl rfl (by assumption) (by rfl) ?_
        | refine ev_loadAggB rfl rfl tabOk rfl rfl (by assumption) (by rfl) ?_
        | refine ev_arith rfl rfl rfl rfl rfl (by simp only [lowK, hiK]; omega) ?_
        | refine ev_rem rfl rfl rfl rfl (by omega) (by omega) ?_
        | refine ev_quo rfl rfl rfl rfl (by omega) (by omega) (by simp only [hiK]; omega) ?_
        | refine ev_index rfl rfl tabOk rfl rfl rfl (by omega) (by omega) ?_
        | refine ev_indexA rfl rfl tabOk rfl rfl rfl (by omega) (by omega) rfl ?_
        | refine ev_convB rfl rfl tabOk rfl rfl rfl rfl ?_
        | refine ev_conv rfl rfl tabOk rfl rfl rfl (by simp only [lowK, hiK]; omega) ?_)
      exact ev_next (k + 1) (by omega) ⟨by omega, rfl⟩ ⟨rfl, rfl, rfl, rfl, rfl, rfl, rfl, trivial⟩
    · repeat (first
        | refine stepF_ok tabOk [] (m := 400) rfl ?_
        | refine stepF_ok tabOk [] (m := 16) rfl ?_
        | refine stepF_ok tabOk [] (m := 3) rfl ?_
        | refine stepF_ok tabOk [] (m := 0) rfl ?_
        | refine ev_load rfl rfl tabOk rfl rfl (by assumption) ?_
        | refine ev_loadB rfl rfl tabOk rfl rfl (by assumption) (by rfl) ?_
        | refine ev_loadAggB rfl rfl tabOk rfl rfl (by assumption) (by rfl) ?_
        | refine ev_arith rfl rfl rfl rfl rfl (by simp only [lowK, hiK]; omega) ?_
        | refine ev_rem rfl rfl rfl rfl (by omega) (by omega) ?_
        | refine ev_quo rfl rfl rfl rfl (by omega) (by omega) (by simp only [hiK]; omega) ?_
        | refine ev_index rfl rfl tabOk rfl rfl rfl (by omega) (by omega) ?_
        | refine ev_indexA rfl rfl tabOk rfl rfl rfl (by omega) (by omega) rfl ?_
        | refine ev_convB rfl rfl tabOk rfl rfl rfl rfl ?_
        | refine ev_conv rfl rfl tabOk rfl rfl rfl (by simp only [lowK, hiK]; omega) ?_)
      exact ev_next (k + 1) (by omega) ⟨by omega, rfl⟩ ⟨rfl, rfl, rfl, rfl, rfl, rfl, rfl, trivial⟩
  · repeat (first
      | refine stepF_ok tabOk [] (m := 400) rfl ?_
      | refine stepF_ok tabOk [] (m := 16) rfl ?_
      | refine stepF_ok tabOk [] (m := 3) rfl ?_
      | refine stepF_ok tabOk [] (m := 0) rfl ?_
      | refine ev_load rfl rfl tabOk rfl rfl (by assumption) ?_
      | refine ev_loadB rfl rfl tabOk rfl rfl (by assumption) (by rfl) ?_
      | refine ev_loadAggB rfl rfl tabOk rfl rfl (by assumption) (by rfl) ?_
      | refine ev_arith rfl rfl rfl rfl rfl (by simp only [lowK, hiK]; omega) ?_
      | refine ev_rem rfl rfl rfl rfl (by omega) (by omega) ?_
      | refine ev_quo rfl rfl rfl rfl (by omega) (by omega) (by simp only [hiK]; omega) ?_
      | refine ev_index rfl rfl tabOk rfl rfl rfl (by omega) (by omega) ?_
      | refine ev_indexA rfl rfl tabOk rfl rfl rfl (by omega) (by omega) rfl ?_
      | refine ev_convB rfl rfl tabOk rfl rfl rfl rfl ?_
      | refine ev_conv rfl rfl tabOk rfl rfl rfl (by simp only [lowK, hiK]; omega) ?_)
    refine ev_condD rfl (fun hneg => ?_) (fun hneg => ?_)
    · obtain ⟨h1, h2, h3⟩ := cut_neg hneg
      rw [h1, h2]
      repeat (first
        | refine stepF_ok tabOk [] (m := 400) rfl ?_
        | refine stepF_ok tabOk [] (m := 16) rfl ?_
        | refine stepF_ok tabOk [] (m := 3) rfl ?_
        | refine stepF_ok tabOk [] (m := 0) rfl ?_
        | refine ev_load rfl rfl tabOk rfl rfl (by assumption) ?_
        | refine ev_loadB rfl rfl tabOk rfl rfl (by assumption) (by rfl) ?_
        | refine ev_loadAggB rfl rfl tabOk rfl rfl (by assumption) (by rfl) ?_
        | refine ev_arith rfl rfl rfl rfl rfl (by simp only [lowK, hiK]; omega) ?_
        | refine ev_rem rfl rfl rfl rfl (by omega) (by omega) ?_
        | refine ev_quo rfl rfl rfl rfl (by omega) (by omega) (by simp only [hiK]; omega) ?_
        | refine ev_index rfl rfl tabOk rfl rfl rfl (by omega) (by omega) ?_
        | refine ev_indexA rfl rfl tabOk rfl rfl rfl (by omega) (by omega) rfl ?_
        | refine ev_convB rfl rfl tabOk rfl rfl rfl rfl ?_
        | refine ev_conv rfl rfl tabOk rfl rfl rfl (by simp only [lowK, hiK]; omega) ?_)
      refine ev_call rfl rfl rfl (wClean s _ (by omega) hT2) (fun r w4 hr => ?_)
      obtain ⟨rfl, hf4⟩ := hr
      repeat (first
        | refine stepF_ok tabOk [] (m := 400) rfl ?_
        | refine stepF_ok tabOk [] (m := 16) rfl ?_
        | refine stepF_ok tabOk [] (m := 3) rfl ?_
        | refine stepF_ok tabOk [] (m := 0) rfl ?_
        | refine ev_load rfl rfl tabOk rfl rfl (by assumption) ?_
        | refine ev_loadB rfl rfl tabOk rfl rfl (by assumption) (by rfl) ?_
        | refine ev_loadAggB rfl rfl tabOk rfl rfl (by assumption) (by rfl) ?_
        | refine ev_arith rfl rfl rfl rfl rfl (by simp only [lowK, hiK]; omega) ?_
        | refine ev_rem rfl rfl rfl rfl (by omega) (by omega) ?_
        | refine ev_quo rfl rfl rfl rfl (by omega) (by omega) (by simp only [hiK]; omega) ?_
        | refine ev_index rfl rfl tabOk rfl rfl rfl (by omega) (by omega) ?_
        | refine ev_indexA rfl rfl tabOk rfl rfl rfl (by omega) (by omega) rfl ?_
        | refine ev_convB rfl rfl tabOk rfl rfl rfl rfl ?_
        | refine ev_conv rfl rfl tabOk rfl rfl rfl (by simp only [lowK, hiK]; omega) ?_)
      exact ret1 (.inr rfl) rfl rfl ⟨by rw [show decide (clean s = clean s) = true from decide_eq_true rfl], hf02.tr hf4⟩
    · obtain ⟨a, ha⟩ : ∃ a : Nat, cutM stops s = a := ⟨(cutM stops s).toNat, by omega⟩
      obtain ⟨hal, i0, hi0, hcT, hcd, hno⟩ := cut_pos ha
      rw [ha, hcT]
      obtain ⟨g, o, e1, hcx⟩ := strs_at hA2 hal
      subst e1
      have hxl := hst _ (getD_mem' hal)
      obtain ⟨x, hx⟩ : ∃ x, x = stops.getD a [] := ⟨_, rfl⟩
      have hx0 : 0 < x.length := List.length_pos_iff.2 (hx ▸ (hok _ (getD_mem' hal)).1)
      rw [← hx] at hcx hxl hi0 hcd hno
      have hcon : Lib.contains s x = true := contains_ends.2 ⟨i0 + x.length, by omega, by
        refine ⟨by rw [List.length_take]; omega, ?_⟩
        rw [List.length_take, Nat.min_eq_left (by omega), Nat.add_sub_cancel]; exact hcd⟩
      repeat (first
        | refine stepF_ok tabOk [] (m := 400) rfl ?_
        | refine stepF_ok tabOk [] (m := 16) rfl ?_
        | refine stepF_ok tabOk [] (m := 3) rfl ?_
        | refine stepF_ok tabOk [] (m := 0) rfl ?_
        | refine ev_load rfl rfl tabOk rfl rfl (by assumption) ?_
        | refine ev_loadB rfl rfl tabOk rfl rfl (by assumption) (by rfl) ?_
        | refine ev_loadAggB rfl rfl tabOk rfl rfl (by assumption) (by rfl) ?_
        | refine ev_arith rfl rfl rfl rfl rfl (by simp only [lowK, hiK]; omega) ?_
        | refine ev_rem rfl rfl rfl rfl (by omega) (by omega) ?_
        | refine ev_quo rfl rfl rfl rfl (by omega) (by omega) (by simp only [hiK]; omega) ?_
        | refine ev_index rfl rfl tabOk rfl rfl rfl (by omega) (by omega) ?_
        | refine ev_indexA rfl rfl tabOk rfl rfl rfl (by omega) (by omega) rfl ?_
        | refine ev_convB rfl rfl tabOk rfl rfl rfl rfl ?_
        | refine ev_conv rfl rfl tabOk rfl rfl rfl (by simp only [lowK, hiK]; omega) ?_)
      refine ev_guardD rfl rfl (fun e => absurd e (by omega)) (fun _ => ?_)
      repeat (first
        | refine stepF_ok tabOk [] (m := 400) rfl ?_
        | refine stepF_ok tabOk [] (m := 16) rfl ?_
        | refine stepF_ok tabOk [] (m := 3) rfl ?_
        | refine stepF_ok tabOk [] (m := 0) rfl ?_
        | refine ev_load rfl rfl tabOk rfl rfl (by assumption) ?_
        | refine ev_loadB rfl rfl tabOk rfl rfl (by assumption) (by rfl) ?_
        | refine ev_loadAggB rfl rfl tabOk rfl rfl (by assumption) (by rfl) ?_
        | refine ev_arith rfl rfl rfl rfl rfl (by simp only [lowK, hiK]; omega) ?_
        | refine ev_rem rfl rfl rfl rfl (by omega) (by omega) ?_
        | refine ev_quo rfl rfl rfl rfl (by omega) (by omega) (by simp only [hiK]; omega) ?_
        | refine ev_index rfl rfl tabOk rfl rfl rfl (by omega) (by omega) ?_
        | refine ev_indexA rfl rfl tabOk rfl rfl rfl (by omega) (by omega) rfl ?_
        | refine ev_convB rfl rfl tabOk rfl rfl rfl rfl ?_
        | refine ev_conv rfl rfl tabOk rfl rfl rfl (by simp only [lowK, hiK]; omega) ?_)
      refine ev_indexAddr (len := stops.length) (i := a) rfl rfl tabOk rfl rfl rfl (by omega) (by omega) ?_
      repeat (first
        | refine stepF_ok tabOk [] (m := 400) rfl ?_
        | refine stepF_ok tabOk [] (m := 16) rfl ?_
        | refine stepF_ok tabOk [] (m := 3) rfl ?_
        | refine stepF_ok tabOk [] (m := 0) rfl ?_
        | refine ev_load rfl rfl tabOk rfl rfl (by assumption) ?_
        | refine ev_loadB rfl rfl tabOk rfl rfl (by assumption) (by rfl) ?_
        | refine ev_loadAggB rfl rfl tabOk rfl rfl (by assumption) (by rfl) ?_
        | refine ev_arith rfl rfl rfl rfl rfl (by simp only [lowK, hiK]; omega) ?_
        | refine ev_rem rfl rfl rfl rfl (by omega) (by omega) ?_
        | refine ev_quo rfl rfl rfl rfl (by omega) (by omega) (by simp only [hiK]; omega) ?_
        | refine ev_index rfl rfl tabOk rfl rfl rfl (by omega) (by omega) ?_
        | refine ev_indexA rfl rfl tabOk rfl rfl rfl (by omega) (by omega) rfl ?_
        | refine ev_convB rfl rfl tabOk rfl rfl rfl rfl ?_
        | refine ev_conv rfl rfl tabOk rfl rfl rfl (by simp only [lowK, hiK]; omega) ?_)
      refine ev_call rfl rfl rfl (cContains s x _ (by omega) hm2) (fun r w4 hr => ?_)
      obtain ⟨rfl, rfl⟩ := hr
      rw [hcon]
      repeat (first
        | refine stepF_ok tabOk [] (m := 400) rfl ?_
        | refine stepF_ok tabOk [] (m := 16) rfl ?_
        | refine stepF_ok tabOk [] (m := 3) rfl ?_
        | refine stepF_ok tabOk [] (m := 0) rfl ?_
        | refine ev_load rfl rfl tabOk rfl rfl (by assumption) ?_
        | refine ev_loadB rfl rfl tabOk rfl rfl (by assumption) (by rfl) ?_
        | refine ev_loadAggB rfl rfl tabOk rfl rfl (by assumption) (by rfl) ?_
        | refine ev_arith rfl rfl rfl rfl rfl (by simp only [lowK, hiK]; omega) ?_
        | refine ev_rem rfl rfl rfl rfl (by omega) (by omega) ?_
        | refine ev_quo rfl rfl rfl rfl (by omega) (by omega) (by simp only [hiK]; omega) ?_
        | refine ev_index rfl rfl tabOk rfl rfl rfl (by omega) (by omega) ?_
        | refine ev_indexA rfl rfl tabOk rfl rfl rfl (by omega) (by omega) rfl ?_
        | refine ev_convB rfl rfl tabOk rfl rfl rfl rfl ?_
        | refine ev_conv rfl rfl tabOk rfl rfl rfl (by simp only [lowK, hiK]; omega) ?_)
      refine ev_loop (α := Nat) (fun i => [(0, .slice (some ⟨g, o, none⟩) stops.length c), (1, sv s), (5, sv (clean (s.take i0))), (6, .int .i64 a), (10, .int .i64 i)])
        (fun i w' => i ≤ i0 ∧ Fr no w w') (fun i => i0 - i) 0 ⟨rfl, rfl, rfl, rfl, rfl, trivial⟩ ⟨Nat.zero_le _, hf02⟩ ?_
      clear hf02
      rintro i w5 ⟨hi, hf5⟩
      have hcx5 : ∀ w', Fr no w5 w' → w'.cell? ⟨g, o + (a : Int).toNat * 1, none⟩ = some (sv x) := fun w' hf => cell_fr (by
        obtain ⟨g', o', e', hc'⟩ := strs_at (hA.fr0 hf5) hal
        cases e'
        rw [hx]; exact hc') hf id
      have hcx := hcx5 w5 (Fr.refl _ _)
      repeat (first
        | refine stepF_ok tabOk [] (m := 400) rfl ?_
        | refine stepF_ok tabOk [] (m := 16) rfl ?_
        | refine stepF_ok tabOk [] (m := 3) rfl ?_
        | refine stepF_ok tabOk [] (m := 0) rfl ?_
        | refine ev_load rfl rfl tabOk rfl rfl (by assumption) ?_
        | refine ev_loadB rfl rfl tabOk rfl rfl (by assumption) (by rfl) ?_
        | refine ev_loadAggB rfl rfl tabOk rfl rfl (by assumption) (by rfl) ?_
        | refine ev_arith rfl rfl rfl rfl rfl (by simp only [lowK, hiK]; omega) ?_
        | refine ev_rem rfl rfl rfl rfl (by omega) (by omega) ?_
        | refine ev_quo rfl rfl rfl rfl (by omega) (by omega) (by simp only [hiK]; omega) ?_
        | refine ev_index rfl rfl tabOk rfl rfl rfl (by omega) (by omega) ?_
        | refine ev_indexA rfl rfl tabOk rfl rfl rfl (by omega) (by omega) rfl ?_
        | refine ev_convB rfl rfl tabOk rfl rfl rfl rfl ?_
        | refine ev_conv rfl rfl tabOk rfl rfl rfl (by simp only [lowK, hiK]; omega) ?_)
      refine ev_indexAddr (len := stops.length) (i := a) rfl rfl tabOk rfl rfl rfl (by omega) (by omega) ?_
      repeat (first
        | refine stepF_ok tabOk [] (m := 400) rfl ?_
        | refine stepF_ok tabOk [] (m := 16) rfl ?_
        | refine stepF_ok tabOk [] (m := 3) rfl ?_
        | refine stepF_ok tabOk [] (m := 0) rfl ?_
        | refine ev_load rfl rfl tabOk rfl rfl (by assumption) ?_
        | refine ev_loadB rfl rfl tabOk rfl rfl (by assumption) (by rfl) ?_
        | refine ev_loadAggB rfl rfl tabOk rfl rfl (by assumption) (by rfl) ?_
        | refine ev_arith rfl rfl rfl rfl rfl (by simp only [lowK, hiK]; omega) ?_
        | refine ev_rem rfl rfl rfl rfl (by omega) (by omega) ?_
        | refine ev_quo rfl rfl rfl rfl (by omega) (by omega) (by simp only [hiK]; omega) ?_
        | refine ev_index rfl rfl tabOk rfl rfl rfl (by omega) (by omega) ?_
        | refine ev_indexA rfl rfl tabOk rfl rfl rfl (by omega) (by omega) rfl ?_
        | refine ev_convB rfl rfl tabOk rfl rfl rfl rfl ?_
        | refine ev_conv rfl rfl tabOk rfl rfl rfl (by simp only [lowK, hiK]; omega) ?_)
      refine ev_condD rfl (fun _ => ?_) (fun e => absurd (by omega) e)
      repeat (first
        | refine stepF_ok tabOk [] (m := 400) rfl ?_
        | refine stepF_ok tabOk [] (m := 16) rfl ?_
        | refine stepF_ok tabOk [] (m := 3) rfl ?_
        | refine stepF_ok tabOk [] (m := 0) rfl ?_
        | refine ev_load rfl rfl tabOk rfl rfl (by assumption) ?_
        | refine ev_loadB rfl rfl tabOk rfl rfl (by assumption) (by rfl) ?_
        | refine ev_loadAggB rfl rfl tabOk rfl rfl (by assumption) (by rfl) ?_
        | refine ev_arith rfl rfl rfl rfl rfl (by simp only [lowK, hiK]; omega) ?_
        | refine ev_rem rfl rfl rfl rfl (by omega) (by omega) ?_
        | refine ev_quo rfl rfl rfl rfl (by omega) (by omega) (by simp only [hiK]; omega) ?_
        | refine ev_index rfl rfl tabOk rfl rfl rfl (by omega) (by omega) ?_
        | refine ev_indexA rfl rfl tabOk rfl rfl rfl (by omega) (by omega) rfl ?_
        | refine ev_convB rfl rfl tabOk rfl rfl rfl rfl ?_
        | refine ev_conv rfl rfl tabOk rfl rfl rfl (by simp only [lowK, hiK]; omega) ?_)
      refine ev_draw mixed (by kernel_rfl) ?_
      repeat (first
        | refine stepQF_ok tabOk (m := 400) rfl ?_
        | refine stepQF_ok tabOk (m := 16) rfl ?_
        | refine stepQF_ok tabOk (m := 3) rfl ?_
        | refine stepQF_ok tabOk (m := 0) rfl ?_
        | refine q_load rfl rfl tabOk rfl rfl (fun _ hf => cell_fr (by assumption) hf id) ?_
        | refine q_arith rfl rfl rfl rfl rfl (by simp only [lowK, hiK]; omega) ?_
        | refine q_rem rfl rfl rfl rfl (by omega) (by omega) ?_
        | refine q_quo rfl rfl rfl rfl (by omega) (by omega) (by simp only [hiK]; omega) ?_
        | refine q_index rfl rfl tabOk rfl rfl rfl (by omega) (by omega) ?_
        | refine q_convB rfl rfl tabOk rfl rfl rfl rfl ?_
        | refine q_conv rfl rfl tabOk rfl rfl rfl (by simp only [lowK, hiK]; omega) ?_)
      refine q_indexAddr (len := stops.length) (i := a) rfl rfl tabOk rfl rfl rfl (by omega) (by omega) ?_
      repeat (first
        | refine stepQF_ok tabOk (m := 400) rfl ?_
        | refine stepQF_ok tabOk (m := 16) rfl ?_
        | refine stepQF_ok tabOk (m := 3) rfl ?_
        | refine stepQF_ok tabOk (m := 0) rfl ?_
        | refine q_load rfl rfl tabOk rfl rfl (fun _ hf => cell_fr (by assumption) hf id) ?_
        | refine q_arith rfl rfl rfl rfl rfl (by simp only [lowK, hiK]; omega) ?_
        | refine q_rem rfl rfl rfl rfl (by omega) (by omega) ?_
        | refine q_quo rfl rfl rfl rfl (by omega) (by omega) (by simp only [hiK]; omega) ?_
        | refine q_index rfl rfl tabOk rfl rfl rfl (by omega) (by omega) ?_
        | refine q_convB rfl rfl tabOk rfl rfl rfl rfl ?_
        | refine q_conv rfl rfl tabOk rfl rfl rfl (by simp only [lowK, hiK]; omega) ?_)
      refine q_sliceStr (s := s) rfl rfl tabOk rfl rfl rfl rfl (by omega) (by omega) (by omega) ?_
      rw [show ((i : Int) + (x.length : Int)).toNat = i + x.length by omega, Int.toNat_natCast]
      repeat (first
        | refine stepQF_ok tabOk (m := 400) rfl ?_
        | refine stepQF_ok tabOk (m := 16) rfl ?_
        | refine stepQF_ok tabOk (m := 3) rfl ?_
        | refine stepQF_ok tabOk (m := 0) rfl ?_
        | refine q_load rfl rfl tabOk rfl rfl (fun _ hf => cell_fr (by assumption) hf id) ?_
        | refine q_arith rfl rfl rfl rfl rfl (by simp only [lowK, hiK]; omega) ?_
        | refine q_rem rfl rfl rfl rfl (by omega) (by omega) ?_
        | refine q_quo rfl rfl rfl rfl (by omega) (by omega) (by simp only [hiK]; omega) ?_
        | refine q_index rfl rfl tabOk rfl rfl rfl (by omega) (by omega) ?_
        | refine q_convB rfl rfl tabOk rfl rfl rfl rfl ?_
        | refine q_conv rfl rfl tabOk rfl rfl rfl (by simp only [lowK, hiK]; omega) ?_)
      refine q_indexAddr (len := stops.length) (i := a) rfl rfl tabOk rfl rfl rfl (by omega) (by omega) ?_
      repeat (first
        | refine stepQF_ok tabOk (m := 400) rfl ?_
        | refine stepQF_ok tabOk (m := 16) rfl ?_
        | refine stepQF_ok tabOk (m := 3) rfl ?_
        | refine stepQF_ok tabOk (m := 0) rfl ?_
        | refine q_load rfl rfl tabOk rfl rfl (fun _ hf => cell_fr (by assumption) hf id) ?_
        | refine q_arith rfl rfl rfl rfl rfl (by simp only [lowK, hiK]; omega) ?_
        | refine q_rem rfl rfl rfl rfl (by omega) (by omega) ?_
        | refine q_quo rfl rfl rfl rfl (by omega) (by omega) (by simp only [hiK]; omega) ?_
        | refine q_index rfl rfl tabOk rfl rfl rfl (by omega) (by omega) ?_
        | refine q_convB rfl rfl tabOk rfl rfl rfl rfl ?_
        | refine q_conv rfl rfl tabOk rfl rfl rfl (by simp only [lowK, hiK]; omega) ?_)
      by_cases hii : i = i0
      · subst hii
        rw [hcd, show decide (x = x) = true from decide_eq_true rfl]
        repeat (first
          | refine stepQF_ok tabOk (m := 400) rfl ?_
          | refine stepQF_ok tabOk (m := 16) rfl ?_
          | refine stepQF_ok tabOk (m := 3) rfl ?_
          | refine stepQF_ok tabOk (m := 0) rfl ?_
          | refine q_load rfl rfl tabOk rfl rfl (fun _ hf => cell_fr (by assumption) hf id) ?_
          | refine q_arith rfl rfl rfl rfl rfl (by simp only [lowK, hiK]; omega) ?_
          | refine q_rem rfl rfl rfl rfl (by omega) (by omega) ?_
          | refine q_quo rfl rfl rfl rfl (by omega) (by omega) (by simp only [hiK]; omega) ?_
          | refine q_index rfl rfl tabOk rfl rfl rfl (by omega) (by omega) ?_
          | refine q_convB rfl rfl tabOk rfl rfl rfl rfl ?_
          | refine q_conv rfl rfl tabOk rfl rfl rfl (by simp only [lowK, hiK]; omega) ?_)
        refine q_sliceStr (s := s) (i := 0) rfl rfl tabOk rfl rfl rfl rfl (by omega) (by omega) (by omega) ?_
        rw [show (0 : Int).toNat = 0 from rfl, List.drop_zero, Int.toNat_natCast]
        refine q_call rfl rfl rfl (fun w' hw' => (wClean (s.take i) w' (by rw [List.length_take]; omega) ((hT.fr0 hf5).fr0 hw')).mono fun u w'' z => ⟨z.1, hw'.tr z.2⟩) ?_
        repeat (first
          | refine stepQF_ok tabOk (m := 400) rfl ?_
          | refine stepQF_ok tabOk (m := 16) rfl ?_
          | refine stepQF_ok tabOk (m := 3) rfl ?_
          | refine stepQF_ok tabOk (m := 0) rfl ?_
          | refine q_load rfl rfl tabOk rfl rfl (fun _ hf => cell_fr (by assumption) hf id) ?_
          | refine q_arith rfl rfl rfl rfl rfl (by simp only [lowK, hiK]; omega) ?_
          | refine q_rem rfl rfl rfl rfl (by omega) (by omega) ?_
          | refine q_quo rfl rfl rfl rfl (by omega) (by omega) (by simp only [hiK]; omega) ?_
          | refine q_index rfl rfl tabOk rfl rfl rfl (by omega) (by omega) ?_
          | refine q_convB rfl rfl tabOk rfl rfl rfl rfl ?_
          | refine q_conv rfl rfl tabOk rfl rfl rfl (by simp only [lowK, hiK]; omega) ?_)
        rw [show decide (clean (s.take i) = clean (s.take i)) = true from decide_eq_true rfl]
        repeat (first
          | refine stepQF_ok tabOk (m := 400) rfl ?_
          | refine stepQF_ok tabOk (m := 16) rfl ?_
          | refine stepQF_ok tabOk (m := 3) rfl ?_
          | refine stepQF_ok tabOk (m := 0) rfl ?_
          | refine q_load rfl rfl tabOk rfl rfl (fun _ hf => cell_fr (by assumption) hf id) ?_
          | refine q_arith rfl rfl rfl rfl rfl (by simp only [lowK, hiK]; omega) ?_
          | refine q_rem rfl rfl rfl rfl (by omega) (by omega) ?_
          | refine q_quo rfl rfl rfl rfl (by omega) (by omega) (by simp only [hiK]; omega) ?_
          | refine q_index rfl rfl tabOk rfl rfl rfl (by omega) (by omega) ?_
          | refine q_convB rfl rfl tabOk rfl rfl rfl rfl ?_
          | refine q_conv rfl rfl tabOk rfl rfl rfl (by simp only [lowK, hiK]; omega) ?_)
        refine q_end fun w6 hf6 => ?_
        have hf6 := hf5.tr hf6
        have hA6 := hA.fr0 hf6
        have hm6 := hm.fr0 hf6
        clear hcx
        have hcx : w6.cell? ⟨g, o + (a : Int).toNat * 1, none⟩ = some (sv x) := by
          obtain ⟨g', o', e', hc'⟩ := strs_at hA6 hal
          cases e'
          rw [hx]; exact hc'
        repeat (first
          | refine stepF_ok tabOk [] (m := 400) rfl ?_
          | refine stepF_ok tabOk [] (m := 16) rfl ?_
          | refine stepF_ok tabOk [] (m := 3) rfl ?_
          | refine stepF_ok tabOk [] (m := 0) rfl ?_
          | refine ev_load rfl rfl tabOk rfl rfl (by assumption) ?_
          | refine ev_loadB rfl rfl tabOk rfl rfl (by assumption) (by rfl) ?_
          | refine ev_loadAggB rfl rfl tabOk rfl rfl (by assumption) (by rfl) ?_
          | refine ev_arith rfl rfl rfl rfl rfl (by simp only [lowK, hiK]; omega) ?_
          | refine ev_rem rfl rfl rfl rfl (by omega) (by omega) ?_
          | refine ev_quo rfl rfl rfl rfl (by omega) (by omega) (by simp only [hiK]; omega) ?_
          | refine ev_index rfl rfl tabOk rfl rfl rfl (by omega) (by omega) ?_
          | refine ev_indexA rfl rfl tabOk rfl rfl rfl (by omega) (by omega) rfl ?_
          | refine ev_convB rfl rfl tabOk rfl rfl rfl rfl ?_
          | refine ev_conv rfl rfl tabOk rfl rfl rfl (by simp only [lowK, hiK]; omega) ?_)
        refine ev_loop (α := Nat) (fun k => [(0, .slice (some ⟨g, o, none⟩) stops.length c), (1, sv s), (6, .int .i64 a), (10, .int .i64 i), (104, .slice (some ⟨g, o, none⟩) stops.length c), (105, .int .i64 stops.length), (106, .int .i64 k)])
          (fun k w' => k ≤ stops.length ∧ w' = w6) (fun k => stops.length - k) 0 ⟨rfl, rfl, rfl, rfl, rfl, rfl, rfl, trivial⟩ ⟨Nat.zero_le _, rfl⟩ ?_
        rintro k w7 ⟨hk, rfl⟩
        repeat (first
          | refine stepF_ok tabOk [] (m := 400) rfl ?_
          | refine stepF_ok tabOk [] (m := 16) rfl ?_
          | refine stepF_ok tabOk [] (m := 3) rfl ?_
          | refine stepF_ok tabOk [] (m := 0) rfl ?_
          | refine ev_load rfl rfl tabOk rfl rfl (by assumption) ?_
          | refine ev_loadB rfl rfl tabOk rfl rfl (by assumption) (by rfl) ?_
          | refine ev_loadAggB rfl rfl tabOk rfl rfl (by assumption) (by rfl) ?_
          | refine ev_arith rfl rfl rfl rfl rfl (by simp only [lowK, hiK]; omega) ?_
          | refine ev_rem rfl rfl rfl rfl (by omega) (by omega) ?_
          | refine ev_quo rfl rfl rfl rfl (by omega) (by omega) (by simp only [hiK]; omega) ?_
          | refine ev_index rfl rfl tabOk rfl rfl rfl (by omega) (by omega) ?_
          | refine ev_indexA rfl rfl tabOk rfl rfl rfl (by omega) (by omega) rfl ?_
          | refine ev_convB rfl rfl tabOk rfl rfl rfl rfl ?_
          | refine ev_conv rfl rfl tabOk rfl rfl rfl (by simp only [lowK, hiK]; omega) ?_)
        refine ev_condD rfl (fun hlt => ?_) (fun hlt => ?_)
        · have hk1 : k < stops.length := by omega
          have hcy : w7.cell? ⟨g, o + (k : Int).toNat * 1, none⟩ = some (sv (stops.getD k [])) := by
            obtain ⟨g', o', e', hc'⟩ := strs_at hA6 hk1
            cases e'
            exact hc'
          have htn := take_no (stops := stops) (s := s) (m := i + x.length - 1) (fun n hn' => hno n (by omega)) hk1
          repeat (first
            | refine stepF_ok tabOk [] (m := 400) rfl ?_
            | refine stepF_ok tabOk [] (m := 16) rfl ?_
            | refine stepF_ok tabOk [] (m := 3) rfl ?_
            | refine stepF_ok tabOk [] (m := 0) rfl ?_
            | refine ev_load rfl rfl tabOk rfl rfl (by assumption) ?_
            | refine ev_loadB rfl rfl tabOk rfl rfl (by assumption) (by rfl) ?_
            | refine ev_loadAggB rfl rfl tabOk rfl rfl (by assumption) (by rfl) ?_
            | refine ev_arith rfl rfl rfl rfl rfl (by simp only [lowK, hiK]; omega) ?_
            | refine ev_rem rfl rfl rfl rfl (by omega) (by omega) ?_
            | refine ev_quo rfl rfl rfl rfl (by omega) (by omega) (by simp only [hiK]; omega) ?_
            | refine ev_index rfl rfl tabOk rfl rfl rfl (by omega) (by omega) ?_
            | refine ev_indexA rfl rfl tabOk rfl rfl rfl (by omega) (by omega) rfl ?_
            | refine ev_convB rfl rfl tabOk rfl rfl rfl rfl ?_
            | refine ev_conv rfl rfl tabOk rfl rfl rfl (by simp only [lowK, hiK]; omega) ?_)
          refine ev_indexAddr (len := stops.length) (i := k) rfl rfl tabOk rfl rfl rfl (by omega) (by omega) ?_
          repeat (first
            | refine stepF_ok tabOk [] (m := 400) rfl ?_
            | refine stepF_ok tabOk [] (m := 16) rfl ?_
            | refine stepF_ok tabOk [] (m := 3) rfl ?_
            | refine stepF_ok tabOk [] (m := 0) rfl ?_
            | refine ev_load rfl rfl tabOk rfl rfl (by assumption) ?_
            | refine ev_loadB rfl rfl tabOk rfl rfl (by assumption) (by rfl) ?_
            | refine ev_loadAggB rfl rfl tabOk rfl rfl (by assumption) (by rfl) ?_
            | refine ev_arith rfl rfl rfl rfl rfl (by simp only [lowK, hiK]; omega) ?_
            | refine ev_rem rfl rfl rfl rfl (by omega) (by omega) ?_
            | refine ev_quo rfl rfl rfl rfl (by omega) (by omega) (by simp only [hiK]; omega) ?_
            | refine ev_index rfl rfl tabOk rfl rfl rfl (by omega) (by omega) ?_
            | refine ev_indexA rfl rfl tabOk rfl rfl rfl (by omega) (by omega) rfl ?_
            | refine ev_convB rfl rfl tabOk rfl rfl rfl rfl ?_
            | refine ev_conv rfl rfl tabOk rfl rfl rfl (by simp only [lowK, hiK]; omega) ?_)
          refine ev_indexAddr (len := stops.length) (i := a) rfl rfl tabOk rfl rfl rfl (by omega) (by omega) ?_
          repeat (first
            | refine stepF_ok tabOk [] (m := 400) rfl ?_
            | refine stepF_ok tabOk [] (m := 16) rfl ?_
            | refine stepF_ok tabOk [] (m := 3) rfl ?_
            | refine stepF_ok tabOk [] (m := 0) rfl ?_
            | refine ev_load rfl rfl tabOk rfl rfl (by assumption) ?_
            | refine ev_loadB rfl rfl tabOk rfl rfl (by assumption) (by rfl) ?_
            | refine ev_loadAggB rfl rfl tabOk rfl rfl (by assumption) (by rfl) ?_
            | refine ev_arith rfl rfl rfl rfl rfl (by simp only [lowK, hiK]; omega) ?_
            | refine ev_rem rfl rfl rfl rfl (by omega) (by omega) ?_
            | refine ev_quo rfl rfl rfl rfl (by omega) (by omega) (by simp only [hiK]; omega) ?_
            | refine ev_index rfl rfl tabOk rfl rfl rfl (by omega) (by omega) ?_
            | refine ev_indexA rfl rfl tabOk rfl rfl rfl (by omega) (by omega) rfl ?_
            | refine ev_convB rfl rfl tabOk rfl rfl rfl rfl ?_
            | refine ev_conv rfl rfl tabOk rfl rfl rfl (by simp only [lowK, hiK]; omega) ?_)
          refine ev_sliceStr (s := s) (i := 0) rfl rfl tabOk rfl rfl rfl rfl (by omega) (by omega) (by omega) ?_
          rw [show (0 : Int).toNat = 0 from rfl, List.drop_zero, show ((i : Int) + (x.length : Int) - 1).toNat = i + x.length - 1 by omega]
          repeat (first
            | refine stepF_ok tabOk [] (m := 400) rfl ?_
            | refine stepF_ok tabOk [] (m := 16) rfl ?_
            | refine stepF_ok tabOk [] (m := 3) rfl ?_
            | refine stepF_ok tabOk [] (m := 0) rfl ?_
            | refine ev_load rfl rfl tabOk rfl rfl (by assumption) ?_
            | refine ev_loadB rfl rfl tabOk rfl rfl (by assumption) (by rfl) ?_
            | refine ev_loadAggB rfl rfl tabOk rfl rfl (by assumption) (by rfl) ?_
            | refine ev_arith rfl rfl rfl rfl rfl (by simp only [lowK, hiK]; omega) ?_
            | refine ev_rem rfl rfl rfl rfl (by omega) (by omega) ?_
            | refine ev_quo rfl rfl rfl rfl (by omega) (by omega) (by simp only [hiK]; omega) ?_
            | refine ev_index rfl rfl tabOk rfl rfl rfl (by omega) (by omega) ?_
            | refine ev_indexA rfl rfl tabOk rfl rfl rfl (by omega) (by omega) rfl ?_
            | refine ev_convB rfl rfl tabOk rfl rfl rfl rfl ?_
            | refine ev_conv rfl rfl tabOk rfl rfl rfl (by simp only [lowK, hiK]; omega) ?_)
          refine ev_call rfl rfl rfl (cContains (s.take (i + x.length - 1)) (stops.getD k []) _ (by rw [List.length_take]; omega) hm6) (fun r w8 hr => ?_)
          obtain ⟨rfl, rfl⟩ := hr
          rw [htn]
          repeat (first
            | refine stepF_ok tabOk [] (m := 400) rfl ?_
            | refine stepF_ok tabOk [] (m := 16) rfl ?_
            | refine stepF_ok tabOk [] (m := 3) rfl ?_
            | refine stepF_ok tabOk [] (m := 0) rfl ?_
            | refine ev_load rfl rfl tabOk rfl rfl (by assumption) ?_
            | refine ev_loadB rfl rfl tabOk rfl rfl (by assumption) (by rfl) ?_
            | refine ev_loadAggB rfl rfl tabOk rfl rfl (by assumption) (by rfl) ?_
            | refine ev_arith rfl rfl rfl rfl rfl (by simp only [lowK, hiK]; omega) ?_
            | refine ev_rem rfl rfl rfl rfl (by omega) (by omega) ?_
            | refine ev_quo rfl rfl rfl rfl (by omega) (by omega) (by simp only [hiK]; omega) ?_
            | refine ev_index rfl rfl tabOk rfl rfl rfl (by omega) (by omega) ?_
            | refine ev_indexA rfl rfl tabOk rfl rfl rfl (by omega) (by omega) rfl ?_
            | refine ev_convB rfl rfl tabOk rfl rfl rfl rfl ?_
            | refine ev_conv rfl rfl tabOk rfl rfl rfl (by simp only [lowK, hiK]; omega) ?_)
          exact ev_next (k + 1) (by omega) ⟨by omega, rfl⟩ ⟨rfl, rfl, rfl, rfl, rfl, rfl, rfl, trivial⟩
        · repeat (first
            | refine stepF_ok tabOk [] (m := 400) rfl ?_
            | refine stepF_ok tabOk [] (m := 16) rfl ?_
            | refine stepF_ok tabOk [] (m := 3) rfl ?_
            | refine stepF_ok tabOk [] (m := 0) rfl ?_
            | refine ev_load rfl rfl tabOk rfl rfl (by assumption) ?_
            | refine ev_loadB rfl rfl tabOk rfl rfl (by assumption) (by rfl) ?_
            | refine ev_loadAggB rfl rfl tabOk rfl rfl (by assumption) (by rfl) ?_
            | refine ev_arith rfl rfl rfl rfl rfl (by simp only [lowK, hiK]; omega) ?_
            | refine ev_rem rfl rfl rfl rfl (by omega) (by omega) ?_
            | refine ev_quo rfl rfl rfl rfl (by omega) (by omega) (by simp only [hiK]; omega) ?_
            | refine ev_index rfl rfl tabOk rfl rfl rfl (by omega) (by omega) ?_
            | refine ev_indexA rfl rfl tabOk rfl rfl rfl (by omega) (by omega) rfl ?_
            | refine ev_convB rfl rfl tabOk rfl rfl rfl rfl ?_
            | refine ev_conv rfl rfl tabOk rfl rfl rfl (by simp only [lowK, hiK]; omega) ?_)
          exact ret1 (.inr rfl) rfl rfl ⟨rfl, hf6⟩
      · have hgo := ahead_no (s := s) hal hx.symm hno (k := i) (by omega) (by omega)
        rw [decide_eq_false hgo]
        repeat (first
          | refine stepQF_ok tabOk (m := 400) rfl ?_
          | refine stepQF_ok tabOk (m := 16) rfl ?_
          | refine stepQF_ok tabOk (m := 3) rfl ?_
          | refine stepQF_ok tabOk (m := 0) rfl ?_
          | refine q_load rfl rfl tabOk rfl rfl (fun _ hf => cell_fr (by assumption) hf id) ?_
          | refine q_arith rfl rfl rfl rfl rfl (by simp only [lowK, hiK]; omega) ?_
          | refine q_rem rfl rfl rfl rfl (by omega) (by omega) ?_
          | refine q_quo rfl rfl rfl rfl (by omega) (by omega) (by simp only [hiK]; omega) ?_
          | refine q_index rfl rfl tabOk rfl rfl rfl (by omega) (by omega) ?_
          | refine q_convB rfl rfl tabOk rfl rfl rfl rfl ?_
          | refine q_conv rfl rfl tabOk rfl rfl rfl (by simp only [lowK, hiK]; omega) ?_)
        refine q_end fun w6 hf6 => ?_
        have hf6 := hf5.tr hf6
        repeat (first
          | refine stepF_ok tabOk [] (m := 400) rfl ?_
          | refine stepF_ok tabOk [] (m := 16) rfl ?_
          | refine stepF_ok tabOk [] (m := 3) rfl ?_
          | refine stepF_ok tabOk [] (m := 0) rfl ?_
          | refine ev_load rfl rfl tabOk rfl rfl (by assumption) ?_
          | refine ev_loadB rfl rfl tabOk rfl rfl (by assumption) (by rfl) ?_
          | refine ev_loadAggB rfl rfl tabOk rfl rfl (by assumption) (by rfl) ?_
          | refine ev_arith rfl rfl rfl rfl rfl (by simp only [lowK, hiK]; omega) ?_
          | refine ev_rem rfl rfl rfl rfl (by omega) (by omega) ?_
          | refine ev_quo rfl rfl rfl rfl (by omega) (by omega) (by simp only [hiK]; omega) ?_
          | refine ev_index rfl rfl tabOk rfl rfl rfl (by omega) (by omega) ?_
          | refine ev_indexA rfl rfl tabOk rfl rfl rfl (by omega) (by omega) rfl ?_
          | refine ev_convB rfl rfl tabOk rfl rfl rfl rfl ?_
          | refine ev_conv rfl rfl tabOk rfl rfl rfl (by simp only [lowK, hiK]; omega) ?_)
        exact ev_next (i + 1) (by omega) ⟨by omega, hf6⟩ ⟨rfl, rfl, rfl, rfl, rfl, trivial⟩
end Go.Wk.YtpnhfkmgnkdleaaDoor
