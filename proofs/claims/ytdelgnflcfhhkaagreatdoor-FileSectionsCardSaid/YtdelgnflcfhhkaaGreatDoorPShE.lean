/-
  Taken for this seat out of ShE.
-/
import Derived.Test.YtdelgnflcfhhkaaGreatDoorPShA
set_option linter.unusedVariables false
namespace Go.Wk.YtdelgnflcfhhkaaGreatDoor
open Go Go.Wk Go.Proofs
/-! ### the generator -/
def lcg (s : Nat) : Nat := (s * 6364136223846793005 + 1442695040888963407) % 18446744073709551616
def lcgN : Nat → Nat → Nat
  | 0, s => s
  | n + 1, s => lcg (lcgN n s)
def rowQ (n s : Nat) : List Int8 := (List.range n).map fun i => Int8.ofInt (s8 (lcgN (i + 1) s / 72057594037927936))
theorem rowQ_len (n s : Nat) : (rowQ n s).length = n := by simp [rowQ]
theorem rowQ_succ (n s : Nat) : rowQ (n + 1) s = rowQ n s ++ [Int8.ofInt (s8 (lcgN (n + 1) s / 72057594037927936))] := by unfold rowQ; rw [List.range_succ, List.map_append]; rfl
theorem lcg_lt (s : Nat) : lcg s < 18446744073709551616 := Nat.mod_lt _ (by omega)
theorem lcgN_lt {s : Nat} (h : s < 18446744073709551616) : ∀ n, lcgN n s < 18446744073709551616
  | 0 => h
  | n + 1 => lcg_lt _
theorem wrap_u64 (x : Int) : IntKind.u64.wrap x = x % 18446744073709551616 := by simp [IntKind.wrap, IntKind.signed, IntKind.bits]
theorem lcg_eq (s : Nat) : IntKind.u64.wrap (IntKind.u64.wrap ((s : Int) * 6364136223846793005) + 1442695040888963407) = (lcg s : Nat) := by
  rw [wrap_u64, wrap_u64]; unfold lcg; omega
theorem s8_v {n : Nat} (h : n < 256) : Value.int .i8 (s8 n) = i8v (Int8.ofInt (s8 n)) := i8_of (s8_bd h)
set_option maxHeartbeats 2000000 in
theorem refRow (s n : Nat) (w : World) (hs : s < 18446744073709551616) (hn : n ≤ 1000000) :
    CallsF Tryz.prog 100 [.int .u64 s, i64 n] w fun r w' => ∃ v, r = .tuple #[v, .int .u64 (lcgN n s)] ∧ N8 w w' v (rowQ n s) := by
  refine callsF Tryz.func100 rfl rfl (by decide) rfl ?_
  refine sA [] rfl ?_
  refine ev_buildSlice tabOk rfl rfl rfl inf177 rfl rfl rfl (fun _ h => by cases h) rfl (fun b w1 hb hb1 hf1 => ?_)
  have hb1 : R8 w1 b [] := hb1
  have hN1 : N8 w w1 (.slice (some ⟨b, 0, none⟩) 0 0) (rowQ 0 s) := N8.of (xs := []) hb1 hb hf1 (Nat.zero_le _)
  refine sA [] rfl ?_
  refine ev_loop (α := Nat × Value) (fun y => [(0, .int .u64 (lcgN y.1 s)), (1, i64 n), (6, y.2), (7, i64 y.1)]) (fun y w' => y.1 ≤ n ∧ N8 w w' y.2 (rowQ y.1 s)) (fun y => n - y.1) (0, _) ⟨rfl, rfl, rfl, rfl, trivial⟩ ⟨Nat.zero_le _, hN1⟩ ?_
  clear hN1 hb1
  rintro ⟨i, v⟩ w2 ⟨hi, hN⟩
  simp only at hi hN
  have hbl := rowQ_len i s
  have hst := lcgN_lt hs i
  have hst1 := lcgN_lt hs (i + 1)
  refine sC [] rfl ?_; refine sD [] rfl ?_; refine sD [] rfl ?_; refine sD [] rfl ?_
  refine ev_condD rfl (fun c => ?_) (fun c => ?_)
  · have hi : i < n := by omega
    refine sA [] rfl ?_
    refine ev_arithW (a := (lcgN i s : Nat)) rfl rfl rfl rfl rfl ?_
    refine ev_arithW rfl rfl rfl rfl rfl ?_
    rw [lcg_eq, show lcg (lcgN i s) = lcgN (i + 1) s from rfl]
    refine sA [] rfl ?_
    rw [show ((lcgN (i + 1) s : Nat) : Int).fdiv (2 ^ 56) = ((lcgN (i + 1) s / 72057594037927936 : Nat) : Int) by rw [Int.fdiv_eq_ediv_of_nonneg _ (by decide)]; omega]
    have hz : lcgN (i + 1) s / 72057594037927936 < 256 := by omega
    obtain ⟨z, hz0⟩ : ∃ z, z = lcgN (i + 1) s / 72057594037927936 := ⟨_, rfl⟩
    rw [← hz0] at hz ⊢
    have hsz := s8_eq hz
    have hsb := s8_bd hz
    refine ev_conv rfl rfl tabOk rfl rfl rfl (by simp only [lowK, hiK]; omega) ?_; refine sC [] rfl ?_; refine sC [] rfl ?_
    refine ev_cut (α := Unit) (fun y => [(0, .int .u64 (lcgN (i + 1) s)), (1, i64 n), (6, v), (7, i64 i), (8, i64 (s8 z))]) (fun y w' => w' = w2) ?_ ?_
    · refine ev_condD rfl (fun d => ?_) (fun d => ?_)
      · rw [if_pos (by omega)] at hsz
        refine sA [] rfl ?_; refine ev_arith rfl rfl rfl rfl rfl (by simp only [lowK, hiK]; omega) ?_; refine sA [] rfl ?_
        exact ev_out () rfl ⟨rfl, rfl, rfl, rfl, by rw [hsz]; rfl, trivial⟩
      · rw [if_neg (by omega)] at hsz
        refine sA [] rfl ?_
        exact ev_out () rfl ⟨rfl, rfl, rfl, rfl, by rw [hsz]; rfl, trivial⟩
    · rintro ⟨⟩ w3 rfl
      refine sA [] rfl ?_; refine ev_conv rfl rfl tabOk rfl rfl rfl (by simp only [lowK, hiK]; omega) ?_
      rw [s8_v hz]
      refine ev_append1 tabOk rfl rfl (fun _ => rfl) rfl rfl inf177 rfl (by omega) (fun _ => rfl) rfl rfl (by simp [Value.cells]) (by simp [flatV, Value.cells, Value.oneCell']) rfl hN.1 (by omega) (fun v5 w5 g ho5 hf5 hn5 => ?_)
      have hN5 := hN.app (ys := [Int8.ofInt (s8 z)]) ho5 hf5 hn5
      rw [hz0, ← rowQ_succ] at hN5
      refine sA [] rfl ?_; refine ev_arith rfl rfl rfl rfl rfl (by simp only [lowK, hiK]; omega) ?_; refine sA [] rfl ?_
      exact ev_next (i + 1, v5) (by simp only; omega) ⟨hi, hN5⟩ ⟨rfl, rfl, rfl, by rw [show ((i + 1 : Nat) : Int) = (i : Int) + 1 by omega]; rfl, trivial⟩
  · obtain rfl : i = n := by omega
    refine sA [] rfl ?_
    exact ret2 (.inr rfl) rfl rfl rfl ⟨v, rfl, hN⟩
/-! ### levels -/
def levQ (n : Nat) : Nat := if n ≤ 1 then 0 else if n ≤ 4 then 1 else if n ≤ 16 then 2 else if n ≤ 64 then 3 else 4
theorem levQ_le (n : Nat) : levQ n ≤ 4 := by unfold levQ; (repeat' split) <;> omega
theorem lev_lt {s n : Nat} (hs : s ≤ 4) (hn : n ≤ 256) : (4 : Int) ^ s < n ↔ s < levQ n := by
  unfold levQ
  rcases (show s = 0 ∨ s = 1 ∨ s = 2 ∨ s = 3 ∨ s = 4 by omega) with rfl | rfl | rfl | rfl | rfl
  · show (1 : Int) < n ↔ _; (repeat' split) <;> omega
  · show (4 : Int) < n ↔ _; (repeat' split) <;> omega
  · show (16 : Int) < n ↔ _; (repeat' split) <;> omega
  · show (64 : Int) < n ↔ _; (repeat' split) <;> omega
  · show (256 : Int) < n ↔ _; (repeat' split) <;> omega
theorem refRoot (n : Nat) (w : World) (hn : n ≤ 256) : CallsF Tryz.prog 98 [i64 n] w fun r w' => r = i64 (levQ n) ∧ w' = w := by
  have hl := levQ_le n
  refine callsF Tryz.func98 rfl rfl (by decide) rfl ?_
  refine sA [] rfl ?_
  refine ev_loop (α := Nat) (fun y => [(0, i64 n), (3, i64 y), (4, i64 (4 ^ y))]) (fun y w' => y ≤ levQ n ∧ w' = w) (fun y => levQ n - y) 0 ⟨rfl, rfl, rfl, trivial⟩ ⟨Nat.zero_le _, rfl⟩ ?_
  rintro s w' ⟨hs, rfl⟩
  have hlt := lev_lt (s := s) (n := n) (by omega) hn
  refine sC [] rfl ?_; refine sD [] rfl ?_; refine sD [] rfl ?_; refine sD [] rfl ?_
  refine ev_condD rfl (fun c => ?_) (fun c => ?_)
  · have := hlt.1 c
    have c : (4 : Int) ^ s < n := c
    have hp : (0 : Int) < 4 ^ s := Int.pow_pos (by omega)
    have e3 : (4 : Int) ^ s * 4 = 4 ^ (s + 1) := (Int.pow_succ 4 s).symm
    refine sA [] rfl ?_; refine ev_arith rfl rfl rfl rfl rfl (by simp only [lowK, hiK]; omega) ?_; refine sA [] rfl ?_; refine ev_arith rfl rfl rfl rfl rfl (by simp only [lowK, hiK]; omega) ?_; refine sA [] rfl ?_
    exact ev_next (s + 1) (by omega) ⟨by omega, rfl⟩ ⟨rfl, by rw [show ((s + 1 : Nat) : Int) = (s : Int) + 1 by omega]; rfl, by rw [← e3]; rfl, trivial⟩
  · have : s = levQ n := by have : ¬ s < levQ n := fun z => c (hlt.2 z); omega
    refine sA [] rfl ?_
    exact ret1 (.inr rfl) rfl rfl ⟨by rw [← this], rfl⟩
/-! ### gains -/
def gainF (n : Nat) : List Int8 := List.replicate n 64
theorem refSameN (n : Nat) (w : World) (hn : n ≤ 1000000) : CallsF Tryz.prog 99 [.int .i8 64, i64 n] w fun r w' => N8 w w' r (gainF n) := by
  refine callsF Tryz.func99 rfl rfl (by decide) rfl ?_
  refine sA [] rfl ?_
  refine ev_buildSlice tabOk rfl rfl rfl inf177 rfl rfl rfl (fun _ h => by cases h) rfl (fun b w1 hb hb1 hf1 => ?_)
  have hb1 : R8 w1 b [] := hb1
  have hN1 : N8 w w1 (.slice (some ⟨b, 0, none⟩) 0 0) (gainF 0) := N8.of (xs := []) hb1 hb hf1 (Nat.zero_le _)
  refine sA [] rfl ?_
  refine ev_loop (α := Nat × Value) (fun y => [(0, .int .i8 64), (1, i64 n), (5, y.2), (6, i64 y.1)]) (fun y w' => y.1 ≤ n ∧ N8 w w' y.2 (gainF y.1)) (fun y => n - y.1) (0, _) ⟨rfl, rfl, rfl, rfl, trivial⟩ ⟨Nat.zero_le _, hN1⟩ ?_
  clear hN1 hb1
  rintro ⟨i, v⟩ w2 ⟨hi, hN⟩
  simp only at hi hN
  have hgl : (gainF i).length = i := by simp [gainF]
  refine sC [] rfl ?_; refine sD [] rfl ?_; refine sD [] rfl ?_; refine sD [] rfl ?_
  refine ev_condD rfl (fun c => ?_) (fun c => ?_)
  · have hi : i < n := by omega
    refine sA [] rfl ?_
    refine ev_append1 tabOk rfl rfl (fun _ => rfl) rfl rfl inf177 rfl (by omega) (fun _ => rfl) rfl rfl (by simp [Value.cells]) (by simp [flatV, Value.cells, Value.oneCell']) rfl hN.1 (by omega) (fun v5 w5 g ho5 hf5 hn5 => ?_)
    have hN5 := hN.app (ys := [64]) ho5 hf5 hn5
    rw [show gainF i ++ [64] = gainF (i + 1) by unfold gainF; rw [List.replicate_succ']] at hN5
    refine sA [] rfl ?_; refine ev_arith rfl rfl rfl rfl rfl (by simp only [lowK, hiK]; omega) ?_; refine sA [] rfl ?_
    exact ev_next (i + 1, v5) (by simp only; omega) ⟨hi, hN5⟩ ⟨rfl, rfl, rfl, by rw [show ((i + 1 : Nat) : Int) = (i : Int) + 1 by omega]; rfl, trivial⟩
  · obtain rfl : i = n := by omega
    refine sA [] rfl ?_
    exact ret1 (.inr rfl) rfl rfl hN
end Go.Wk.YtdelgnflcfhhkaaGreatDoor
namespace Go.Wk.YtdelgnflcfhhkaaGreatDoor
open Go Go.Wk Go.Proofs
structure Shp where
  voc : Int
  ctx : Int
  dim : Int
  hds : Int
  lay : Int
  hid : Int
  deriving DecidableEq
abbrev shpC (s : Shp) : List Value := [i64 s.voc, i64 s.ctx, i64 s.dim, i64 s.hds, i64 s.lay, i64 s.hid]
abbrev shpV (s : Shp) : Value := .agg ⟨shpC s⟩
def okS (s : Shp) : Prop := (2 ≤ s.voc ∧ s.voc ≤ 512) ∧ (1 ≤ s.ctx ∧ s.ctx ≤ 512) ∧ (2 ≤ s.dim ∧ s.dim ≤ 64) ∧ 1 ≤ s.hds ∧ s.dim % s.hds = 0 ∧ s.dim / s.hds % 2 = 0 ∧ (1 ≤ s.lay ∧ s.lay ≤ 8) ∧ (1 ≤ s.hid ∧ s.hid ≤ 256)
instance (s : Shp) : Decidable (okS s) := by unfold okS; infer_instance
def chkS (s : Shp) : Int := if okS s then 0 else 160
theorem chk_y {s : Shp} (h : okS s) : chkS s = 0 := if_pos h
theorem chk_n {s : Shp} (h : ¬ okS s) : chkS s = 160 := if_neg h
def halfS (s : Shp) : Int := if okS s then s.dim / s.hds / 2 else 0
theorem half_bd {s : Shp} (h : okS s) : 1 ≤ halfS s ∧ halfS s ≤ 32 ∧ s.dim / s.hds = 2 * halfS s := by
  obtain ⟨h1, h2, h3, h4, h5, h6, h7, h8⟩ := h
  have e : halfS s = s.dim / s.hds / 2 := if_pos ⟨h1, h2, h3, h4, h5, h6, h7, h8⟩
  have hb := (ediv_bd (x := s.dim) (d := s.hds) h4).1 (by omega)
  have hm := Int.mul_ediv_add_emod s.dim s.hds
  have hne : s.dim / s.hds ≠ 0 := fun z => by rw [z, h5] at hm; omega
  omega
theorem wBetween (n lo hi : Int) (w : World) : CallsF Tryz.prog 67 [i64 n, i64 lo, i64 hi] w fun r w' => r = .bool (decide (lo ≤ n ∧ n ≤ hi)) ∧ w' = w := by
  refine callsF Tryz.func67 rfl rfl (by decide) rfl ?_
  refine sC [] rfl ?_; refine sC [] rfl ?_; refine sD [] rfl ?_; refine sD [] rfl ?_
  by_cases h1 : lo ≤ n
  · rw [show decide (lo ≤ n) = true from decide_eq_true h1]
    refine sA [] rfl ?_
    exact ret1 (.inr rfl) rfl rfl ⟨congrArg Value.bool (decide_eq_decide.2 ⟨fun h => ⟨h1, h⟩, fun h => h.2⟩), rfl⟩
  · rw [show decide (lo ≤ n) = false from decide_eq_false h1]
    refine sA [] rfl ?_
    exact ret1 (.inr rfl) rfl rfl ⟨congrArg Value.bool (decide_eq_false fun h => h1 h.1).symm, rfl⟩
theorem refWithin (n lo hi : Int) (w : World) : CallsF Tryz.prog 78 [i64 n, i64 lo, i64 hi] w fun r w' => r = .bool (decide (lo ≤ n ∧ n ≤ hi)) ∧ w' = w := by
  refine callsF Tryz.func78 rfl rfl (by decide) rfl ?_
  refine sC [] rfl ?_; refine sC [] rfl ?_; refine sD [] rfl ?_; refine sD [] rfl ?_
  by_cases h1 : lo ≤ n
  · rw [show decide (lo ≤ n) = true from decide_eq_true h1]
    refine sA [] rfl ?_
    exact ret1 (.inr rfl) rfl rfl ⟨congrArg Value.bool (decide_eq_decide.2 ⟨fun h => ⟨h1, h⟩, fun h => h.2⟩), rfl⟩
  · rw [show decide (lo ≤ n) = false from decide_eq_false h1]
    refine sA [] rfl ?_
    exact ret1 (.inr rfl) rfl rfl ⟨congrArg Value.bool (decide_eq_false fun h => h1 h.1).symm, rfl⟩
set_option maxHeartbeats 2000000 in
theorem wChk (s : Shp) (w : World) : CallsF Tryz.prog 25 [shpV s] w fun r w' => r = i64 (chkS s) ∧ Fr no w w' := by
  refine callsF Tryz.func25 rfl rfl (by decide) rfl ?_
  refine sA [] rfl ?_
  refine ev_box rfl rfl rfl (fun b w1 hb hB hf1 => ?_)
  have hB : Blk w1 b (shpC s) _ := hB
  refine sA [] rfl ?_; refine ev_loadB rfl rfl tabOk rfl rfl ‹_› (by rfl) ?_
  refine ev_call rfl rfl rfl (wBetween s.voc 2 512 _) (fun r w2 hr => ?_)
  obtain ⟨rfl, rfl⟩ := hr
  by_cases o1 : 2 ≤ s.voc ∧ s.voc ≤ 512
  case neg =>
    rw [decide_eq_false o1]
    refine sA [] rfl ?_
    exact ret1 (.inr rfl) rfl rfl ⟨by rw [chk_n fun h => o1 h.1], hf1⟩
  rw [decide_eq_true o1]
  refine sA [] rfl ?_; refine ev_loadB rfl rfl tabOk rfl rfl ‹_› (by rfl) ?_
  refine ev_call rfl rfl rfl (wBetween s.ctx 1 512 _) (fun r w2 hr => ?_)
  obtain ⟨rfl, rfl⟩ := hr
  by_cases o2 : 1 ≤ s.ctx ∧ s.ctx ≤ 512
  case neg =>
    rw [decide_eq_false o2]
    refine sA [] rfl ?_
    exact ret1 (.inr rfl) rfl rfl ⟨by rw [chk_n fun h => o2 h.2.1], hf1⟩
  rw [decide_eq_true o2]
  refine sA [] rfl ?_; refine ev_loadB rfl rfl tabOk rfl rfl ‹_› (by rfl) ?_
  refine ev_call rfl rfl rfl (wBetween s.dim 2 64 _) (fun r w2 hr => ?_)
  obtain ⟨rfl, rfl⟩ := hr
  by_cases o3 : 2 ≤ s.dim ∧ s.dim ≤ 64
  case neg =>
    rw [decide_eq_false o3]
    refine sA [] rfl ?_
    exact ret1 (.inr rfl) rfl rfl ⟨by rw [chk_n fun h => o3 h.2.2.1], hf1⟩
  rw [decide_eq_true o3]
  refine sA [] rfl ?_; refine ev_loadB rfl rfl tabOk rfl rfl ‹_› (by rfl) ?_; refine sD [] rfl ?_; refine sD [] rfl ?_; refine sD [] rfl ?_
  by_cases o4 : 1 ≤ s.hds
  case neg =>
    rw [show decide (s.hds < 1) = true from decide_eq_true (by omega)]
    refine sA [] rfl ?_
    exact ret1 (.inr rfl) rfl rfl ⟨by rw [chk_n fun h => o4 h.2.2.2.1], hf1⟩
  rw [show decide (s.hds < 1) = false from decide_eq_false (by omega)]
  refine sA [] rfl ?_; refine ev_loadB rfl rfl tabOk rfl rfl ‹_› (by rfl) ?_; refine sA [] rfl ?_; refine ev_loadB rfl rfl tabOk rfl rfl ‹_› (by rfl) ?_; refine ev_rem rfl rfl rfl rfl (by omega) (by omega) ?_; refine sD [] rfl ?_; refine sD [] rfl ?_; refine sD [] rfl ?_
  by_cases o5 : s.dim % s.hds = 0
  case neg =>
    rw [show decide (¬ s.dim % s.hds = 0) = true from decide_eq_true o5]
    refine sA [] rfl ?_
    exact ret1 (.inr rfl) rfl rfl ⟨by rw [chk_n fun h => o5 h.2.2.2.2.1], hf1⟩
  rw [show decide (¬ s.dim % s.hds = 0) = false from decide_eq_false fun z => z o5]
  have hq := (ediv_bd (x := s.dim) (d := s.hds) o4).1 (by omega)
  refine sA [] rfl ?_; refine ev_loadB rfl rfl tabOk rfl rfl ‹_› (by rfl) ?_; refine sA [] rfl ?_; refine ev_loadB rfl rfl tabOk rfl rfl ‹_› (by rfl) ?_; refine ev_quo rfl rfl rfl rfl (by omega) (by omega) (by simp only [hiK]; omega) ?_; refine ev_rem rfl rfl rfl rfl (by omega) (by omega) ?_; refine sD [] rfl ?_; refine sD [] rfl ?_; refine sD [] rfl ?_
  by_cases o6 : s.dim / s.hds % 2 = 0
  case neg =>
    rw [show decide (¬ s.dim / s.hds % 2 = 0) = true from decide_eq_true o6]
    refine sA [] rfl ?_
    exact ret1 (.inr rfl) rfl rfl ⟨by rw [chk_n fun h => o6 h.2.2.2.2.2.1], hf1⟩
  rw [show decide (¬ s.dim / s.hds % 2 = 0) = false from decide_eq_false fun z => z o6]
  refine sA [] rfl ?_; refine ev_loadB rfl rfl tabOk rfl rfl ‹_› (by rfl) ?_
  refine ev_call rfl rfl rfl (wBetween s.lay 1 8 _) (fun r w2 hr => ?_)
  obtain ⟨rfl, rfl⟩ := hr
  by_cases o7 : 1 ≤ s.lay ∧ s.lay ≤ 8
  case neg =>
    rw [decide_eq_false o7]
    refine sA [] rfl ?_
    exact ret1 (.inr rfl) rfl rfl ⟨by rw [chk_n fun h => o7 h.2.2.2.2.2.2.1], hf1⟩
  rw [decide_eq_true o7]
  refine sA [] rfl ?_; refine ev_loadB rfl rfl tabOk rfl rfl ‹_› (by rfl) ?_
  refine ev_call rfl rfl rfl (wBetween s.hid 1 256 _) (fun r w2 hr => ?_)
  obtain ⟨rfl, rfl⟩ := hr
  by_cases o8 : 1 ≤ s.hid ∧ s.hid ≤ 256
  case neg =>
    rw [decide_eq_false o8]
    refine sA [] rfl ?_
    exact ret1 (.inr rfl) rfl rfl ⟨by rw [chk_n fun h => o8 h.2.2.2.2.2.2.2], hf1⟩
  rw [decide_eq_true o8]
  refine sA [] rfl ?_
  exact ret1 (.inr rfl) rfl rfl ⟨by rw [chk_y ⟨o1, o2, o3, o4, o5, o6, o7, o8⟩], hf1⟩
set_option maxHeartbeats 2000000 in
theorem refChk (s : Shp) (w : World) : CallsF Tryz.prog 38 [shpV s] w fun r w' => r = i64 (chkS s) ∧ Fr no w w' := by
  refine callsF Tryz.func38 rfl rfl (by decide) rfl ?_
  refine sA [] rfl ?_
  refine ev_box rfl rfl rfl (fun b w1 hb hB hf1 => ?_)
  have hB : Blk w1 b (shpC s) _ := hB
  refine sA [] rfl ?_; refine ev_loadB rfl rfl tabOk rfl rfl ‹_› (by rfl) ?_
  refine ev_call rfl rfl rfl (refWithin s.voc 2 512 _) (fun r w2 hr => ?_)
  obtain ⟨rfl, rfl⟩ := hr
  by_cases o1 : 2 ≤ s.voc ∧ s.voc ≤ 512
  case neg =>
    rw [decide_eq_false o1]
    refine sA [] rfl ?_
    exact ret1 (.inr rfl) rfl rfl ⟨by rw [chk_n fun h => o1 h.1], hf1⟩
  rw [decide_eq_true o1]
  refine sA [] rfl ?_; refine ev_loadB rfl rfl tabOk rfl rfl ‹_› (by rfl) ?_
  refine ev_call rfl rfl rfl (refWithin s.ctx 1 512 _) (fun r w2 hr => ?_)
  obtain ⟨rfl, rfl⟩ := hr
  by_cases o2 : 1 ≤ s.ctx ∧ s.ctx ≤ 512
  case neg =>
    rw [decide_eq_false o2]
    refine sA [] rfl ?_
    exact ret1 (.inr rfl) rfl rfl ⟨by rw [chk_n fun h => o2 h.2.1], hf1⟩
  rw [decide_eq_true o2]
  refine sA [] rfl ?_; refine ev_loadB rfl rfl tabOk rfl rfl ‹_› (by rfl) ?_
  refine ev_call rfl rfl rfl (refWithin s.dim 2 64 _) (fun r w2 hr => ?_)
  obtain ⟨rfl, rfl⟩ := hr
  by_cases o3 : 2 ≤ s.dim ∧ s.dim ≤ 64
  case neg =>
    rw [decide_eq_false o3]
    refine sA [] rfl ?_
    exact ret1 (.inr rfl) rfl rfl ⟨by rw [chk_n fun h => o3 h.2.2.1], hf1⟩
  rw [decide_eq_true o3]
  refine sA [] rfl ?_; refine ev_loadB rfl rfl tabOk rfl rfl ‹_› (by rfl) ?_
  refine ev_call rfl rfl rfl (refWithin s.lay 1 8 _) (fun r w2 hr => ?_)
  obtain ⟨rfl, rfl⟩ := hr
  by_cases o7 : 1 ≤ s.lay ∧ s.lay ≤ 8
  case neg =>
    rw [decide_eq_false o7]
    refine sA [] rfl ?_
    exact ret1 (.inr rfl) rfl rfl ⟨by rw [chk_n fun h => o7 h.2.2.2.2.2.2.1], hf1⟩
  rw [decide_eq_true o7]
  refine sA [] rfl ?_; refine ev_loadB rfl rfl tabOk rfl rfl ‹_› (by rfl) ?_
  refine ev_call rfl rfl rfl (refWithin s.hid 1 256 _) (fun r w2 hr => ?_)
  obtain ⟨rfl, rfl⟩ := hr
  by_cases o8 : 1 ≤ s.hid ∧ s.hid ≤ 256
  case neg =>
    rw [decide_eq_false o8]
    refine sA [] rfl ?_
    exact ret1 (.inr rfl) rfl rfl ⟨by rw [chk_n fun h => o8 h.2.2.2.2.2.2.2], hf1⟩
  rw [decide_eq_true o8]
  refine sA [] rfl ?_; refine ev_loadB rfl rfl tabOk rfl rfl ‹_› (by rfl) ?_; refine sD [] rfl ?_; refine sD [] rfl ?_
  by_cases o4 : 1 ≤ s.hds
  case neg =>
    rw [show decide (s.hds < 1) = true from decide_eq_true (by omega)]
    refine sA [] rfl ?_
    exact ret1 (.inr rfl) rfl rfl ⟨by rw [chk_n fun h => o4 h.2.2.2.1], hf1⟩
  rw [show decide (s.hds < 1) = false from decide_eq_false (by omega)]
  refine sA [] rfl ?_; refine ev_loadB rfl rfl tabOk rfl rfl ‹_› (by rfl) ?_; refine sA [] rfl ?_; refine ev_loadB rfl rfl tabOk rfl rfl ‹_› (by rfl) ?_; refine ev_rem rfl rfl rfl rfl (by omega) (by omega) ?_; refine sD [] rfl ?_; refine sD [] rfl ?_; refine sD [] rfl ?_
  by_cases o5 : s.dim % s.hds = 0
  case neg =>
    rw [show decide (¬ s.dim % s.hds = 0) = true from decide_eq_true o5]
    refine sA [] rfl ?_
    exact ret1 (.inr rfl) rfl rfl ⟨by rw [chk_n fun h => o5 h.2.2.2.2.1], hf1⟩
  rw [show decide (¬ s.dim % s.hds = 0) = false from decide_eq_false fun z => z o5]
  have hq := (ediv_bd (x := s.dim) (d := s.hds) o4).1 (by omega)
  refine sA [] rfl ?_; refine ev_loadB rfl rfl tabOk rfl rfl ‹_› (by rfl) ?_; refine sA [] rfl ?_; refine ev_loadB rfl rfl tabOk rfl rfl ‹_› (by rfl) ?_; refine ev_quo rfl rfl rfl rfl (by omega) (by omega) (by simp only [hiK]; omega) ?_; refine ev_rem rfl rfl rfl rfl (by omega) (by omega) ?_; refine sD [] rfl ?_; refine sD [] rfl ?_; refine sD [] rfl ?_
  by_cases o6 : s.dim / s.hds % 2 = 0
  case neg =>
    rw [show decide (¬ s.dim / s.hds % 2 = 0) = true from decide_eq_true o6]
    refine sA [] rfl ?_
    exact ret1 (.inr rfl) rfl rfl ⟨by rw [chk_n fun h => o6 h.2.2.2.2.2.1], hf1⟩
  rw [show decide (¬ s.dim / s.hds % 2 = 0) = false from decide_eq_false fun z => z o6]
  refine sA [] rfl ?_
  exact ret1 (.inr rfl) rfl rfl ⟨by rw [chk_y ⟨o1, o2, o3, o4, o5, o6, o7, o8⟩], hf1⟩
theorem wHalf (s : Shp) (w : World) : CallsF Tryz.prog 33 [shpV s] w fun r w' => r = i64 (halfS s) ∧ Fr no w w' := by
  refine callsF Tryz.func33 rfl rfl (by decide) rfl ?_
  refine sA [] rfl ?_
  refine ev_box rfl rfl rfl (fun b w1 hb hB hf1 => ?_)
  have hB : Blk w1 b (shpC s) _ := hB
  refine sA [] rfl ?_; refine ev_loadAggB rfl rfl tabOk rfl rfl ‹_› (by rfl) ?_
  refine ev_call rfl rfl rfl (wChk s _) (fun r w2 hr => ?_)
  obtain ⟨rfl, hf2⟩ := hr
  have hf2 := hf1.tr hf2
  have hB := hB.fr0 (show Fr no w1 w2 by assumption)
  by_cases o : okS s
  · rw [chk_y o]
    have h := o
    obtain ⟨h1, h2, h3, h4, h5, h6, h7, h8⟩ := h
    have hq := (ediv_bd (x := s.dim) (d := s.hds) h4).1 (by omega)
    refine sA [] rfl ?_; refine ev_loadB rfl rfl tabOk rfl rfl ‹_› (by rfl) ?_; refine sA [] rfl ?_; refine ev_loadB rfl rfl tabOk rfl rfl ‹_› (by rfl) ?_; refine ev_quo rfl rfl rfl rfl (by omega) (by omega) (by simp only [hiK]; omega) ?_; refine ev_quo rfl rfl rfl rfl (by omega) (by omega) (by simp only [hiK]; omega) ?_; refine sA [] rfl ?_
    exact ret1 (.inr rfl) rfl rfl ⟨by unfold halfS; rw [if_pos o], hf2⟩
  · rw [chk_n o]
    refine sA [] rfl ?_
    exact ret1 (.inr rfl) rfl rfl ⟨by unfold halfS; rw [if_neg o], hf2⟩
theorem refHalf (s : Shp) (w : World) : CallsF Tryz.prog 43 [shpV s] w fun r w' => r = i64 (halfS s) ∧ Fr no w w' := by
  refine callsF Tryz.func43 rfl rfl (by decide) rfl ?_
  refine sA [] rfl ?_
  refine ev_box rfl rfl rfl (fun b w1 hb hB hf1 => ?_)
  have hB : Blk w1 b (shpC s) _ := hB
  refine sA [] rfl ?_; refine ev_loadAggB rfl rfl tabOk rfl rfl ‹_› (by rfl) ?_
  refine ev_call rfl rfl rfl (refChk s _) (fun r w2 hr => ?_)
  obtain ⟨rfl, hf2⟩ := hr
  have hf2 := hf1.tr hf2
  have hB := hB.fr0 (show Fr no w1 w2 by assumption)
  by_cases o : okS s
  · rw [chk_y o]
    have h := o
    obtain ⟨h1, h2, h3, h4, h5, h6, h7, h8⟩ := h
    have hq := (ediv_bd (x := s.dim) (d := s.hds) h4).1 (by omega)
    refine sA [] rfl ?_; refine ev_loadB rfl rfl tabOk rfl rfl ‹_› (by rfl) ?_; refine sA [] rfl ?_; refine ev_loadB rfl rfl tabOk rfl rfl ‹_› (by rfl) ?_; refine ev_quo rfl rfl rfl rfl (by omega) (by omega) (by simp only [hiK]; omega) ?_; refine ev_quo rfl rfl rfl rfl (by omega) (by omega) (by simp only [hiK]; omega) ?_; refine sA [] rfl ?_
    exact ret1 (.inr rfl) rfl rfl ⟨by unfold halfS; rw [if_pos o], hf2⟩
  · rw [chk_n o]
    refine sA [] rfl ?_
    exact ret1 (.inr rfl) rfl rfl ⟨by unfold halfS; rw [if_neg o], hf2⟩
theorem mul_bd {a b m k : Int} (h0 : 0 ≤ a) (h1 : a ≤ m) (h2 : 0 ≤ b) (h3 : b ≤ k) : 0 ≤ a * b ∧ a * b ≤ m * k :=
  ⟨Int.mul_nonneg h0 h2, Int.mul_le_mul h1 h3 h2 (Int.le_trans h0 h1)⟩
end Go.Wk.YtdelgnflcfhhkaaGreatDoor
namespace Go.Wk.YtdelgnflcfhhkaaGreatDoor
open Go Go.Wk Go.Proofs
/-- a row of 8-bit numbers, where it lies -/
structure Rw where
  A : Option Addr
  c : Nat
  xs : List Int8
abbrev Rw.v (r : Rw) : Value := .slice r.A r.xs.length r.c
abbrev Rw.At (w : World) (r : Rw) : Prop := Cs w r.A (r.xs.map i8v)
/-- a block of a model -/
structure Bk (ρ : Type) where
  g1 : ρ
  q : ρ
  k : ρ
  v : ρ
  o : ρ
  g2 : ρ
  qs : Int
  ks : Int
  vs : Int
  os : Int
  ss : Int
  ga : ρ
  up : ρ
  dn : ρ
  gas : Int
  ups : Int
  dns : Int
def Bk.map {ρ σ : Type} (f : ρ → σ) (b : Bk ρ) : Bk σ := ⟨f b.g1, f b.q, f b.k, f b.v, f b.o, f b.g2, b.qs, b.ks, b.vs, b.os, b.ss, f b.ga, f b.up, f b.dn, b.gas, b.ups, b.dns⟩
abbrev Bk.rows {ρ : Type} (b : Bk ρ) : List ρ := [b.g1, b.g2, b.q, b.k, b.v, b.o, b.ga, b.up, b.dn]
abbrev bkC (b : Bk Rw) : List Value := [b.g1.v, b.q.v, b.k.v, b.v.v, b.o.v, b.g2.v, i64 b.qs, i64 b.ks, i64 b.vs, i64 b.os, i64 b.ss, b.ga.v, b.up.v, b.dn.v, i64 b.gas, i64 b.ups, i64 b.dns]
abbrev bkV (b : Bk Rw) : Value := .agg ⟨bkC b⟩
def Bk.At (w : World) (b : Bk Rw) : Prop := ∀ r ∈ b.rows, r.At w
theorem Bk.At.fr0 {w w' : World} {b : Bk Rw} (h : b.At w) (hf : Fr no w w') : b.At w' := fun r hr => (h r hr).fr0 hf
abbrev pBk (b : Bk Rw) : Bk (List Int8) := b.map Rw.xs
/-- a model, where its rows lie -/
structure LM where
  s : Shp
  tA : Option Addr
  tc : Nat
  mA : Option Addr
  mc : Nat
  V : VV
  e : Rw
  es : Int
  cos : Rw
  sin : Rw
  bA : Option Addr
  bc : Nat
  bs : List (Bk Rw)
  bend : Rw
  gain : Rw
  un : Rw
  ls : Int
abbrev lmC (m : LM) : List Value := [i64 m.s.voc, i64 m.s.ctx, i64 m.s.dim, i64 m.s.hds, i64 m.s.lay, i64 m.s.hid, .slice m.tA m.V.texts.length m.tc, .slice m.mA m.V.merges.length m.mc, m.e.v, i64 m.es, m.cos.v, m.sin.v, .slice m.bA m.bs.length m.bc, m.bend.v, m.gain.v, m.un.v, i64 m.ls]
abbrev lmV (m : LM) : Value := .agg ⟨lmC m⟩
abbrev LM.rows (m : LM) : List Rw := [m.e, m.cos, m.sin, m.bend, m.gain, m.un]
/-- all rows, as they are made -/
abbrev LM.all (m : LM) : List Rw := [m.gain, m.cos, m.sin, m.bend, m.e] ++ m.bs.flatMap Bk.rows ++ [m.un]
structure LM.At (w : World) (m : LM) : Prop where
  voc : Vo w m.tA m.mA m.V
  rows : ∀ r ∈ m.rows, r.At w
  blk : Cs w m.bA (m.bs.flatMap bkC)
  bs : ∀ b ∈ m.bs, b.At w
theorem LM.At.fr0 {w w' : World} {m : LM} (h : m.At w) (hf : Fr no w w') : m.At w' := ⟨h.voc.fr0 hf, fun r hr => (h.rows r hr).fr0 hf, h.blk.fr0 hf, fun b hb => (h.bs b hb).fr0 hf⟩
/-- a model alone -/
structure Md where
  s : Shp
  V : VV
  e : List Int8
  es : Int
  cos : List Int8
  sin : List Int8
  bs : List (Bk (List Int8))
  bend : List Int8
  gain : List Int8
  un : List Int8
  ls : Int
def LM.p (m : LM) : Md := ⟨m.s, m.V, m.e.xs, m.es, m.cos.xs, m.sin.xs, m.bs.map pBk, m.bend.xs, m.gain.xs, m.un.xs, m.ls⟩
theorem flat_len {α : Type} {f : α → List Value} {k : Nat} (hf : ∀ x, (f x).length = k) : ∀ l : List α, (l.flatMap f).length = l.length * k
  | [] => by simp
  | x :: l => by rw [List.flatMap_cons, List.length_append, hf, flat_len hf l, List.length_cons, Nat.succ_mul]; omega
theorem flat_at {α : Type} {f : α → List Value} {k : Nat} (hf : ∀ x, (f x).length = k) : ∀ {l : List α} {i j : Nat} {x : α} {u : Value}, l[i]? = some x → (f x)[j]? = some u → (l.flatMap f)[i * k + j]? = some u
  | [], i, j, x, u, h, _ => by simp at h
  | y :: l, 0, j, x, u, h, hj => by
    simp only [List.getElem?_cons_zero, Option.some.injEq] at h
    subst h
    rw [List.flatMap_cons, Nat.zero_mul, Nat.zero_add, List.getElem?_append_left (List.getElem?_eq_some_iff.1 hj).1]; exact hj
  | y :: l, i + 1, j, x, u, h, hj => by
    have ih := flat_at hf (l := l) (i := i) (by simpa using h) hj
    rw [List.flatMap_cons, List.getElem?_append_right (by rw [hf, Nat.succ_mul]; omega), hf, show (i + 1) * k + j - k = i * k + j by rw [Nat.succ_mul]; omega]
    exact ih
theorem bkC_len (b : Bk Rw) : (bkC b).length = 17 := rfl
/-- a block at its place -/
theorem blk_at {w : World} {A : Option Addr} {l : List (Bk Rw)} (h : Cs w A (l.flatMap bkC)) {i : Nat} (hi : i < l.length) : ∃ g o, A = some ⟨g, o, none⟩ ∧ Cs w (some ⟨g, o + (i : Int).toNat * 17, none⟩) (bkC l[i]) := by
  have hx : l[i]? = some l[i] := List.getElem?_eq_getElem hi
  obtain ⟨g, o, rfl, _⟩ := h (i * 17 + 0) _ (flat_at bkC_len hx (j := 0) rfl)
  exact ⟨g, o, rfl, by rw [Int.toNat_natCast]; exact h.part (i * 17) fun j u hj => flat_at bkC_len hx hj⟩
section
variable {P : Program} {fn : Func} {R : Ending → World → Prop} {n : Nat} {w : World}
/-- a store of several cells into a part of a block -/
theorem ev_storePart {k : List It} {env : Env} {L l : List Oper} {t : TypeId} {x y : Operand} {ty : TypeId} {ps : String} {af : Array Edge} {g : Option (Nat × Bool)} {tab : Tab} {b o : Nat} {vs cs : List Value} {e : TypeId}
    (hT : TabOk P tab) (hg : guardOf L env g = some true) (hx : ev env x = some (.pointer (some ⟨b, o, none⟩))) (hy : ev env y = some (.agg ⟨vs⟩)) (hag : aggT (tyAt tab t) = some true) (hs : szAt tab t = vs.length) (hv : allOne vs = true)
    (hb : Blk w b cs e) (hl : o + vs.length ≤ cs.length)
    (hk : ∀ w', Blk w' b (cs.take o ++ vs ++ cs.drop (o + vs.length)) e → Fr (fun c => c = b) w w' → H P fn R n (.ops L l :: k) .normal env w') :
    H P fn R n (.ops L (⟨none, .store t x y, ty, ps, af, g⟩ :: l) :: k) .normal env w := by
  have hst := run_storeCells_at P b o e vs 0 ⟨cs⟩ w hb (by simpa using hl) (allOne_ok hv)
  refine ev_do hg (w.setRow b (((⟨cs⟩ : Array Value).toList.take (o + 0) ++ vs ++ (⟨cs⟩ : Array Value).toList.drop (o + 0 + vs.length)).toArray)) (fun a hA => by
    simp only [execOp, hA.ev hx, hA.ev hy]
    refine run_bind (a := ()) ?_
    unfold Instr.storeAt
    show Sem.run P ((Sem.pure _).bind _) w = _
    simp only [Sem.bind, storeVar]
    refine (run_bind (run_sizeOf (ty_size hT hag hs))).trans ?_
    simp only [Value.cells, List.size_toArray, ne_eq, not_true_eq_false, if_false]
    exact hst) (hk _ ?_ ?_)
  · have := setRow_heap w b ⟨cs⟩ (((⟨cs⟩ : Array Value).toList.take (o + 0) ++ vs ++ (⟨cs⟩ : Array Value).toList.drop (o + 0 + vs.length)).toArray) e _ hb
    unfold Blk
    rw [this]
    simp
  · exact ⟨rfl, rfl, rfl, by simp, fun c hc hn => setRow_other w b c _ (fun e => hn e)⟩
end
end Go.Wk.YtdelgnflcfhhkaaGreatDoor
namespace Go.Wk.YtdelgnflcfhhkaaGreatDoor
open Go Go.Wk Go.Proofs
/-- a row of one's own, in a new block -/
def OR (w0 w : World) (r : Rw) : Prop := Own w 177 1 r.v r.xs.length (r.xs.map i8v) ∧ ∀ g, r.v.ownBlock = some g → w0.heap.size ≤ g
theorem OR.fr {S : Nat → Prop} {w0 w w' : World} {r : Rw} (h : OR w0 w r) (hf : Fr S w w') (hn : ∀ g, r.v.ownBlock = some g → ¬ S g) : OR w0 w' r := ⟨h.1.fr hf hn, h.2⟩
theorem OR.fr0 {w0 w w' : World} {r : Rw} (h : OR w0 w r) (hf : Fr no w w') : OR w0 w' r := h.fr hf fun _ _ => id
theorem OR.lt {w0 w : World} {r : Rw} (h : OR w0 w r) {g : Nat} (hg : r.v.ownBlock = some g) : g < w.heap.size := h.1.lt hg
theorem OR.At {w0 w : World} {r : Rw} (h : OR w0 w r) : r.At w := by
  obtain ⟨A, c, e, h1, _⟩ := h.1.slice
  have e1 : r.A = A := by have : r.v = .slice A r.xs.length c := e; injection this
  show Cs w r.A _
  rw [e1]; exact h1
abbrev apR (r r' : Rw) : Prop := ∀ g, r.v.ownBlock = some g → r'.v.ownBlock ≠ some g
/-- the row of a whole block -/
abbrev rowB (q : Nat) (xs : List Int8) : Rw := ⟨some ⟨q, 0, none⟩, xs.length, xs⟩
theorem OR.of {w0 w : World} {q : Nat} {xs : List Int8} (h : R8 w q xs) (hq : w0.heap.size ≤ q) (hl : xs.length ≤ 1000000000) : OR w0 w (rowB q xs) :=
  ⟨own_of_blk h (by rw [List.length_map, Nat.mul_one]) (Nat.le_trans hl (by omega)), fun g hg => by cases hg; exact hq⟩
theorem OR.ofN {w0 w1 w : World} {v : Value} {xs : List Int8} (h : N8 w1 w v xs) (hs : w0.heap.size ≤ w1.heap.size) : ∃ r : Rw, v = r.v ∧ r.xs = xs ∧ OR w0 w r ∧ ∀ g, r.v.ownBlock = some g → w1.heap.size ≤ g := by
  obtain ⟨A, c, e, _, _⟩ := h.1.slice
  subst e
  exact ⟨⟨A, c, xs⟩, rfl, rfl, ⟨h.1, fun g hg => Nat.le_trans hs (h.2.1 g hg)⟩, h.2.1⟩
section
variable {T : TypeId} {w0 w w' : World} {b x : Nat} {cells cells' : List Value} {st st' : Nat} {R : List Rw} {O : Nat → Prop}
theorem gain_len (n : Nat) : (gainF n).length = n := by simp [gainF]
end
/-! ### what Sample makes -/
def txtF (i : Nat) : List UInt8 := if i = 0 then [] else if i < 256 then [UInt8.ofNat ((96 + i) % 256)] else [97, UInt8.ofNat ((97 + i - 256) % 256)]
def txts (n : Nat) : List (List UInt8) := (List.range n).map txtF
def mrgs : Nat → List Mrg
  | 0 => []
  | n + 1 => mrgs n ++ (if 256 ≤ n ∧ n ≤ 510 then [(1, (n : Int) - 255, (n : Int))] else [])
theorem txts_len (n : Nat) : (txts n).length = n := by simp [txts]
theorem txts_succ (n : Nat) : txts (n + 1) = txts n ++ [txtF n] := by unfold txts; rw [List.range_succ, List.map_append]; rfl
theorem mrgs_len : ∀ n, (mrgs n).length ≤ n
  | 0 => Nat.le_refl _
  | n + 1 => by
    have := mrgs_len n
    unfold mrgs
    rw [List.length_append]
    split
    · simp only [List.length_cons, List.length_nil]; omega
    · simp only [List.length_nil]; omega
def seed64 (n : Int) : Nat := (n % 18446744073709551616).toNat
/-- a block off the generator -/
def blkF (d h st : Nat) : Bk (List Int8) :=
  ⟨gainF d, rowQ (d * d) st, rowQ (d * d) (lcgN (d * d) st), rowQ (d * d) (lcgN (d * d) (lcgN (d * d) st)), rowQ (d * d) (lcgN (d * d) (lcgN (d * d) (lcgN (d * d) st))), gainF d,
    7 + levQ d, 7 + levQ d, 7 + levQ d, 4 + levQ d, 3,
    rowQ (h * d) (lcgN (d * d) (lcgN (d * d) (lcgN (d * d) (lcgN (d * d) st)))), rowQ (h * d) (lcgN (h * d) (lcgN (d * d) (lcgN (d * d) (lcgN (d * d) (lcgN (d * d) st))))), rowQ (d * h) (lcgN (h * d) (lcgN (h * d) (lcgN (d * d) (lcgN (d * d) (lcgN (d * d) (lcgN (d * d) st)))))),
    7 + levQ d, 7 + levQ d, 4 + levQ h⟩
def blkS (d h st : Nat) : Nat := lcgN (d * h) (lcgN (h * d) (lcgN (h * d) (lcgN (d * d) (lcgN (d * d) (lcgN (d * d) (lcgN (d * d) st))))))
def layS (d h : Nat) : Nat → Nat → Nat
  | 0, st => st
  | l + 1, st => blkS d h (layS d h l st)
def layF (d h l st : Nat) : List (Bk (List Int8)) := (List.range l).map fun j => blkF d h (layS d h j st)
theorem layF_succ (d h l st : Nat) : layF d h (l + 1) st = layF d h l st ++ [blkF d h (layS d h l st)] := by unfold layF; rw [List.range_succ, List.map_append]; rfl
def sampleP (s : Shp) (seed : Int) : Md :=
  let d := s.dim.toNat
  let h := s.hid.toNat
  let n := s.voc.toNat
  let st := lcgN (n * d) (seed64 seed)
  ⟨s, ⟨txts n, mrgs n⟩, rowQ (n * d) (seed64 seed), 2, cosF s.ctx.toNat (halfS s).toNat, sinF s.ctx.toNat (halfS s).toNat, layF d h s.lay.toNat st, BEND, gainF d, rowQ (n * d) (layS d h s.lay.toNat st), 4 + levQ d⟩
theorem seed64_lt (n : Int) : seed64 n < 18446744073709551616 := by unfold seed64; omega
theorem layS_lt {d h st : Nat} (hs : st < 18446744073709551616) : ∀ l, layS d h l st < 18446744073709551616
  | 0 => hs
  | l + 1 => lcgN_lt (lcgN_lt (lcgN_lt (lcgN_lt (lcgN_lt (lcgN_lt (lcgN_lt (layS_lt hs l) _) _) _) _) _) _) _
/-- a model of one's own: TM, TB: what its merges and blocks are -/
structure OwnM (TM TB : TypeId) (w0 w : World) (m : LM) : Prop where
  rows : ∀ r ∈ m.all, OR w0 w r
  ap : m.all.Pairwise apR
  txt : Own w 9 1 (.slice m.tA m.V.texts.length m.tc) m.V.texts.length (m.V.texts.map sv)
  mrg : Own w TM 3 (.slice m.mA m.V.merges.length m.mc) m.V.merges.length (mcs m.V.merges)
  blk : Own w TB 17 (.slice m.bA m.bs.length m.bc) m.bs.length (m.bs.flatMap bkC)
  ge : ∀ g, (Value.slice m.tA m.V.texts.length m.tc).ownBlock = some g ∨ (Value.slice m.mA m.V.merges.length m.mc).ownBlock = some g ∨ (Value.slice m.bA m.bs.length m.bc).ownBlock = some g → w0.heap.size ≤ g ∧ ∀ r ∈ m.all, r.v.ownBlock ≠ some g
  tm : ∀ g, (Value.slice m.tA m.V.texts.length m.tc).ownBlock = some g → (Value.slice m.mA m.V.merges.length m.mc).ownBlock ≠ some g ∧ (Value.slice m.bA m.bs.length m.bc).ownBlock ≠ some g
  mb : ∀ g, (Value.slice m.mA m.V.merges.length m.mc).ownBlock = some g → (Value.slice m.bA m.bs.length m.bc).ownBlock ≠ some g
  fr : Fr no w0 w
theorem own_cs {w : World} {e sz n c : Nat} {A : Option Addr} {xs : List Value} (h : Own w e sz (.slice A n c) n xs) : Cs w A xs := by
  obtain ⟨A', c', e, h1, _⟩ := h.slice
  injection e with e1 e2 e3
  rw [e1]; exact h1
theorem OwnM.At {TM TB : TypeId} {w0 w : World} {m : LM} (h : OwnM TM TB w0 w m) : m.At w :=
  ⟨⟨own_cs h.txt, own_cs h.mrg⟩, fun r hr => (h.rows r (by
    simp only [List.mem_cons, List.not_mem_nil, or_false] at hr
    simp only [LM.all, List.mem_append, List.mem_cons, List.not_mem_nil, or_false]
    rcases hr with z | z | z | z | z | z <;> simp [z])).At, own_cs h.blk, fun b hb r hr => (h.rows r (List.mem_append.2 (.inl (List.mem_append.2 (.inr (List.mem_flatMap.2 ⟨b, hb, hr⟩)))))).At⟩
theorem OwnM.fr0 {TM TB : TypeId} {w0 w w' : World} {m : LM} (h : OwnM TM TB w0 w m) (hf : Fr no w w') : OwnM TM TB w0 w' m :=
  ⟨fun r hr => (h.rows r hr).fr0 hf, h.ap, h.txt.fr0 hf, h.mrg.fr0 hf, h.blk.fr0 hf, h.ge, h.tm, h.mb, h.fr.tr hf⟩
end Go.Wk.YtdelgnflcfhhkaaGreatDoor
