/-
  Chapter 16: numbers one by one; gains; levels.
-/
import Derived.Test.YtfgllkflnkolhaaDoorShA
set_option linter.unusedVariables false
namespace Go.Wk.YtfgllkflnkolhaaDoor
open Go Go.Wk Go.Proofs

/-! ### the generator -/
def lcg (s : Nat) : Nat := (s * 6364136223846793005 + 1442695040888963407) % 18446744073709551616
def lcgN : Nat → Nat → Nat
  | 0, s => s
  | n + 1, s => lcg (lcgN n s)
def rowQ (n s : Nat) : List Int8 := (List.range n).map fun i => Int8.ofInt (s8 (lcgN (i + 1) s / 72057594037927936))
theorem rowQ_len (n s : Nat) : (rowQ n s).length = n := by simp [rowQ]
theorem rowQ_succ (n s : Nat) : rowQ (n + 1) s = rowQ n s ++ [Int8.ofInt (s8 (lcgN (n + 1) s / 72057594037927936))] := by unfold rowQ; rw [List.range_succ, List.map_append]; rfl
theorem lcg_lt (s : Nat) : lcg s < 18446744073709551616 := Nat.mod_lt _ (by omega)
theorem lcgN_lt {s : Nat} (h : s < 18446744073709551616) : ∀ n, lcgN n s < 18446744073709551616
  | 0 => h
  | n + 1 => lcg_lt _
theorem wrap_u64 (x : Int) : IntKind.u64.wrap x = x % 18446744073709551616 := by simp [IntKind.wrap, IntKind.signed, IntKind.bits]
theorem lcg_eq (s : Nat) : IntKind.u64.wrap (IntKind.u64.wrap ((s : Int) * 6364136223846793005) + 1442695040888963407) = (lcg s : Nat) := by
  rw [wrap_u64, wrap_u64]; unfold lcg; omega
theorem s8_v {n : Nat} (h : n < 256) : Value.int .i8 (s8 n) = i8v (Int8.ofInt (s8 n)) := i8_of (s8_bd h)
/-- a maker's cell -/
abbrev Mk (w : World) (p s : Nat) : Prop := Blk w p [.int .u64 s] 110
set_option maxHeartbeats 2000000 in
theorem wRow (p s n : Nat) (w : World) (h : Mk w p s) (hs : s < 18446744073709551616) (hn : n ≤ 1000000) :
    CallsF Tryd.prog 50 [.pointer (some ⟨p, 0, none⟩), i64 n] w fun r w' => ∃ q, r = .slice (some ⟨q, 0, none⟩) n n ∧ R8 w' q (rowQ n s) ∧ w.heap.size ≤ q ∧ Mk w' p (lcgN n s) ∧ Fr (fun c => c = p) w w' := by
  have hpl := h.lt
  refine callsF Tryd.func50 rfl rfl (by decide) rfl ?_
  refine sA [] rfl ?_
  refine ev_make tabOk rfl rfl rfl inf56 rfl rfl (by omega) (by omega) (by omega) (fun q w1 hq hR hf1 => ?_)
  have hR : R8 w1 q (List.replicate n 0) := made8 (n := n) rfl hR
  have h1 := h.fr0 hf1
  rw [show ((n : Nat) : Int).toNat = n from rfl]
  have hpq : p ≠ q := by omega
  clear h
  refine sA [] rfl ?_
  refine ev_loop (α := Nat) (fun y => [(0, .pointer (some ⟨p, 0, none⟩)), (5, .slice (some ⟨q, 0, none⟩) n n), (10, i64 n), (11, i64 y)]) (fun y w' => y ≤ n ∧ R8 w' q (rowQ y s ++ List.replicate (n - y) 0) ∧ Mk w' p (lcgN y s) ∧ Fr (fun c => c = p) w w') (fun y => n - y) 0 ⟨rfl, rfl, rfl, rfl, trivial⟩ ⟨Nat.zero_le _, hR, h1, hf1.mono fun _ _ z => z.elim⟩ ?_
  clear hR h1 hf1
  rintro i w2 ⟨hi, hR, h2, hF⟩
  have hbl := rowQ_len i s
  have hst := lcgN_lt hs i
  have hst1 := lcgN_lt hs (i + 1)
  refine sC [] rfl ?_; refine sD [] rfl ?_
  refine ev_condD rfl (fun c => ?_) (fun c => ?_)
  · have hi : i < n := by omega
    refine sA [] rfl ?_; refine ev_loadB rfl rfl tabOk rfl rfl ‹_› (by rfl) ?_
    refine ev_arithW rfl rfl rfl rfl rfl ?_
    refine ev_arithW rfl rfl rfl rfl rfl ?_
    rw [lcg_eq, show lcg (lcgN i s) = lcgN (i + 1) s from rfl]
    refine sA [] rfl ?_
    refine ev_store tabOk rfl rfl rfl rfl rfl rfl h2 rfl (fun w3 h3 hf3 => ?_)
    have h3 : Mk w3 p (lcgN (i + 1) s) := h3
    have hR3 : R8 w3 q _ := hR.fr hf3 (fun e => hpq e.symm)
    have hF3 := hF.trans hf3 fun _ _ z => z
    clear h2 hR hf3
    refine sA [] rfl ?_; refine ev_loadB rfl rfl tabOk rfl rfl ‹_› (by rfl) ?_; refine sA [] rfl ?_
    rw [show ((lcgN (i + 1) s : Nat) : Int).fdiv (2 ^ 56) = ((lcgN (i + 1) s / 72057594037927936 : Nat) : Int) by rw [Int.fdiv_eq_ediv_of_nonneg _ (by decide)]; omega]
    have hz : lcgN (i + 1) s / 72057594037927936 < 256 := by omega
    obtain ⟨z, hz0⟩ : ∃ z, z = lcgN (i + 1) s / 72057594037927936 := ⟨_, rfl⟩
    rw [← hz0] at hz ⊢
    refine ev_conv rfl rfl tabOk rfl rfl rfl (by simp only [lowK, hiK]; omega) ?_
    refine ev_convW rfl rfl tabOk rfl rfl rfl ?_
    rw [show IntKind.i8.wrap (z : Int) = s8 z from rfl, s8_v hz]
    refine ev_indexAddr (len := n) (i := i) rfl rfl tabOk rfl rfl rfl (by omega) (by omega) ?_
    refine ev_store tabOk rfl rfl rfl rfl rfl rfl hR3 (blt_of (by rw [List.length_map, List.length_append, List.length_replicate]; omega)) (fun w4 hR4 hf4 => ?_)
    rw [show 0 + (i : Int).toNat * 1 = i by omega, R8.set, fill_set hbl hi, hz0, ← rowQ_succ] at hR4
    have h4 : Mk w4 p (lcgN (i + 1) s) := h3.fr hf4 hpq
    have hF4 : Fr (fun c => c = p) w w4 := hF3.trans hf4 fun c hc e => by have : c = q := e; omega
    refine sA [] rfl ?_; refine ev_arith rfl rfl rfl rfl rfl (by simp only [lowK, hiK]; omega) ?_; refine sA [] rfl ?_
    exact ev_next (i + 1) (by omega) ⟨hi, hR4, h4, hF4⟩ ⟨rfl, rfl, rfl, by rw [show ((i + 1 : Nat) : Int) = (i : Int) + 1 by omega]; rfl, trivial⟩
  · obtain rfl : i = n := by omega
    rw [Nat.sub_self, List.replicate_zero, List.append_nil] at hR
    refine sA [] rfl ?_
    exact ret1 (.inr rfl) rfl rfl ⟨q, rfl, hR, hq, h2, hF⟩
set_option maxHeartbeats 2000000 in
theorem refRow (s n : Nat) (w : World) (hs : s < 18446744073709551616) (hn : n ≤ 1000000) :
    CallsF Tryd.prog 45 [.int .u64 s, i64 n] w fun r w' => ∃ v, r = .tuple #[v, .int .u64 (lcgN n s)] ∧ N8 w w' v (rowQ n s) := by
  refine callsF Tryd.func45 rfl rfl (by decide) rfl ?_
  refine sA [] rfl ?_
  refine ev_buildSlice tabOk rfl rfl rfl inf56 rfl rfl rfl (fun _ h => by cases h) rfl (fun b w1 hb hb1 hf1 => ?_)
  have hb1 : R8 w1 b [] := hb1
  have hN1 : N8 w w1 (.slice (some ⟨b, 0, none⟩) 0 0) (rowQ 0 s) := N8.of (xs := []) hb1 hb hf1 (Nat.zero_le _)
  refine sA [] rfl ?_
  refine ev_loop (α := Nat × Value) (fun y => [(0, .int .u64 (lcgN y.1 s)), (1, i64 n), (6, y.2), (7, i64 y.1)]) (fun y w' => y.1 ≤ n ∧ N8 w w' y.2 (rowQ y.1 s)) (fun y => n - y.1) (0, _) ⟨rfl, rfl, rfl, rfl, trivial⟩ ⟨Nat.zero_le _, hN1⟩ ?_
  clear hN1 hb1
  rintro ⟨i, v⟩ w2 ⟨hi, hN⟩
  simp only at hi hN
  have hbl := rowQ_len i s
  have hst := lcgN_lt hs i
  have hst1 := lcgN_lt hs (i + 1)
  refine sC [] rfl ?_; refine sD [] rfl ?_; refine sD [] rfl ?_; refine sD [] rfl ?_
  refine ev_condD rfl (fun c => ?_) (fun c => ?_)
  · have hi : i < n := by omega
    refine sA [] rfl ?_
    refine ev_arithW (a := (lcgN i s : Nat)) rfl rfl rfl rfl rfl ?_
    refine ev_arithW rfl rfl rfl rfl rfl ?_
    rw [lcg_eq, show lcg (lcgN i s) = lcgN (i + 1) s from rfl]
    refine sA [] rfl ?_
    rw [show ((lcgN (i + 1) s : Nat) : Int).fdiv (2 ^ 56) = ((lcgN (i + 1) s / 72057594037927936 : Nat) : Int) by rw [Int.fdiv_eq_ediv_of_nonneg _ (by decide)]; omega]
    have hz : lcgN (i + 1) s / 72057594037927936 < 256 := by omega
    obtain ⟨z, hz0⟩ : ∃ z, z = lcgN (i + 1) s / 72057594037927936 := ⟨_, rfl⟩
    rw [← hz0] at hz ⊢
    have hsz := s8_eq hz
    have hsb := s8_bd hz
    refine ev_conv rfl rfl tabOk rfl rfl rfl (by simp only [lowK, hiK]; omega) ?_; refine sC [] rfl ?_; refine sC [] rfl ?_
    refine ev_cut (α := Unit) (fun y => [(0, .int .u64 (lcgN (i + 1) s)), (1, i64 n), (6, v), (7, i64 i), (8, i64 (s8 z))]) (fun y w' => w' = w2) ?_ ?_
    · refine ev_condD rfl (fun d => ?_) (fun d => ?_)
      · rw [if_pos (by omega)] at hsz
        refine sA [] rfl ?_; refine ev_arith rfl rfl rfl rfl rfl (by simp only [lowK, hiK]; omega) ?_; refine sA [] rfl ?_
        exact ev_out () rfl ⟨rfl, rfl, rfl, rfl, by rw [hsz]; rfl, trivial⟩
      · rw [if_neg (by omega)] at hsz
        refine sA [] rfl ?_
        exact ev_out () rfl ⟨rfl, rfl, rfl, rfl, by rw [hsz]; rfl, trivial⟩
    · rintro ⟨⟩ w3 rfl
      refine sA [] rfl ?_; refine ev_conv rfl rfl tabOk rfl rfl rfl (by simp only [lowK, hiK]; omega) ?_
      rw [s8_v hz]
      refine ev_append1 tabOk rfl rfl (fun _ => rfl) rfl rfl inf56 rfl (by omega) (fun _ => rfl) rfl rfl (by simp [Value.cells]) (by simp [flatV, Value.cells, Value.oneCell']) rfl hN.1 (by omega) (fun v5 w5 g ho5 hf5 hn5 => ?_)
      have hN5 := hN.app (ys := [Int8.ofInt (s8 z)]) ho5 hf5 hn5
      rw [hz0, ← rowQ_succ] at hN5
      refine sA [] rfl ?_; refine ev_arith rfl rfl rfl rfl rfl (by simp only [lowK, hiK]; omega) ?_; refine sA [] rfl ?_
      exact ev_next (i + 1, v5) (by simp only; omega) ⟨hi, hN5⟩ ⟨rfl, rfl, rfl, by rw [show ((i + 1 : Nat) : Int) = (i : Int) + 1 by omega]; rfl, trivial⟩
  · obtain rfl : i = n := by omega
    refine sA [] rfl ?_
    exact ret2 (.inr rfl) rfl rfl rfl ⟨v, rfl, hN⟩

/-! ### levels -/
def levQ (n : Nat) : Nat := if n ≤ 1 then 0 else if n ≤ 4 then 1 else if n ≤ 16 then 2 else if n ≤ 64 then 3 else 4
theorem levQ_le (n : Nat) : levQ n ≤ 4 := by unfold levQ; (repeat' split) <;> omega
theorem lev_lt {s n : Nat} (hs : s ≤ 4) (hn : n ≤ 256) : (4 : Int) ^ s < n ↔ s < levQ n := by
  unfold levQ
  rcases (show s = 0 ∨ s = 1 ∨ s = 2 ∨ s = 3 ∨ s = 4 by omega) with rfl | rfl | rfl | rfl | rfl
  · show (1 : Int) < n ↔ _; (repeat' split) <;> omega
  · show (4 : Int) < n ↔ _; (repeat' split) <;> omega
  · show (16 : Int) < n ↔ _; (repeat' split) <;> omega
  · show (64 : Int) < n ↔ _; (repeat' split) <;> omega
  · show (256 : Int) < n ↔ _; (repeat' split) <;> omega
theorem lev_pow : ∀ s : Fin 5, IntKind.i64.wrap (1 * 2 ^ (2 * ((s.val : Nat) : Int)).toNat) = 4 ^ s.val := by decide
theorem wLevel (n : Nat) (w : World) (hn : n ≤ 256) : CallsF Tryd.prog 47 [i64 n] w fun r w' => r = i64 (levQ n) ∧ w' = w := by
  have hl := levQ_le n
  refine callsF Tryd.func47 rfl rfl (by decide) rfl ?_
  refine sA [] rfl ?_
  refine ev_loop (α := Nat) (fun y => [(0, i64 n), (3, i64 y)]) (fun y w' => y ≤ levQ n ∧ w' = w) (fun y => levQ n - y) 0 ⟨rfl, rfl, trivial⟩ ⟨Nat.zero_le _, rfl⟩ ?_
  rintro s w' ⟨hs, rfl⟩
  have hlt := lev_lt (s := s) (n := n) (by omega) hn
  refine sA [] rfl ?_; refine ev_arith rfl rfl rfl rfl rfl (by simp only [lowK, hiK]; omega) ?_
  refine ev_y rfl rfl (y_shl rfl rfl (by omega) (by show 2 * (s : Int) ≤ ((64 : Nat) : Int); omega)) ?_
  rw [show IntKind.i64.wrap (1 * 2 ^ (2 * (s : Int)).toNat) = 4 ^ s from lev_pow ⟨s, by omega⟩]
  refine sD [] rfl ?_; refine sD [] rfl ?_; refine sD [] rfl ?_
  refine ev_condD rfl (fun c => ?_) (fun c => ?_)
  · have := hlt.1 c
    refine sA [] rfl ?_; refine ev_arith rfl rfl rfl rfl rfl (by simp only [lowK, hiK]; omega) ?_; refine sA [] rfl ?_
    exact ev_next (s + 1) (by omega) ⟨by omega, rfl⟩ ⟨rfl, by rw [show ((s + 1 : Nat) : Int) = (s : Int) + 1 by omega]; rfl, trivial⟩
  · have : s = levQ n := by have : ¬ s < levQ n := fun z => c (hlt.2 z); omega
    refine sA [] rfl ?_
    exact ret1 (.inr rfl) rfl rfl ⟨by rw [← this], rfl⟩
theorem refRoot (n : Nat) (w : World) (hn : n ≤ 256) : CallsF Tryd.prog 41 [i64 n] w fun r w' => r = i64 (levQ n) ∧ w' = w := by
  have hl := levQ_le n
  refine callsF Tryd.func41 rfl rfl (by decide) rfl ?_
  refine sA [] rfl ?_
  refine ev_loop (α := Nat) (fun y => [(0, i64 n), (3, i64 y), (4, i64 (4 ^ y))]) (fun y w' => y ≤ levQ n ∧ w' = w) (fun y => levQ n - y) 0 ⟨rfl, rfl, rfl, trivial⟩ ⟨Nat.zero_le _, rfl⟩ ?_
  rintro s w' ⟨hs, rfl⟩
  have hlt := lev_lt (s := s) (n := n) (by omega) hn
  refine sC [] rfl ?_; refine sD [] rfl ?_; refine sD [] rfl ?_; refine sD [] rfl ?_
  refine ev_condD rfl (fun c => ?_) (fun c => ?_)
  · have := hlt.1 c
    have c : (4 : Int) ^ s < n := c
    have hp : (0 : Int) < 4 ^ s := Int.pow_pos (by omega)
    have e3 : (4 : Int) ^ s * 4 = 4 ^ (s + 1) := (Int.pow_succ 4 s).symm
    refine sA [] rfl ?_; refine ev_arith rfl rfl rfl rfl rfl (by simp only [lowK, hiK]; omega) ?_; refine sA [] rfl ?_; refine ev_arith rfl rfl rfl rfl rfl (by simp only [lowK, hiK]; omega) ?_; refine sA [] rfl ?_
    exact ev_next (s + 1) (by omega) ⟨by omega, rfl⟩ ⟨rfl, by rw [show ((s + 1 : Nat) : Int) = (s : Int) + 1 by omega]; rfl, by rw [← e3]; rfl, trivial⟩
  · have : s = levQ n := by have : ¬ s < levQ n := fun z => c (hlt.2 z); omega
    refine sA [] rfl ?_
    exact ret1 (.inr rfl) rfl rfl ⟨by rw [← this], rfl⟩

/-! ### gains -/
def gainF (n : Nat) : List Int8 := List.replicate n 64
theorem wMul64 (n : Nat) (w : World) (hn : n ≤ 1000000) : CallsF Tryd.prog 102 [.int .u64 1, .int .u64 n] w fun r w' => r = .tuple #[.int .u64 0, .int .u64 n] ∧ w' = w := by
  have ha : ∀ {m : Nat}, m ≤ 1000000 → bits .and .u64 (m : Int) 4294967295 = (m : Int) := fun {m} hm => by
    have h := bits_and64 (a := m) (b := 4294967295) (by omega) (by omega)
    rw [show ((4294967295 : Nat) : Int) = 4294967295 from rfl] at h
    rw [h, show (4294967295 : Nat) = 2 ^ 32 - 1 from rfl, Nat.and_two_pow_sub_one_eq_mod, Nat.mod_eq_of_lt (by omega)]
  have hd : ∀ {m : Nat}, m ≤ 1000000 → ((m : Int)).fdiv (2 ^ 32) = 0 := fun {m} hm => by rw [Int.fdiv_eq_ediv_of_nonneg _ (by decide)]; omega
  have h1 := ha hn
  have h2 := hd hn
  have h3 : (1 * (n : Int)) = (n : Int) := Int.one_mul _
  refine callsF Tryd.func102 rfl rfl (by decide) rfl ?_
  refine sA [] rfl ?_
  rw [h1]
  skip
  rw [h2]
  skip
  rw [show bits .and .u64 1 4294967295 = 1 by decide, show Int.fdiv 1 (2 ^ 32) = 0 by decide]
  refine ev_arith rfl rfl rfl rfl rfl (by simp only [lowK, hiK]; omega) ?_; refine sA [] rfl ?_; refine ev_arith rfl rfl rfl rfl rfl (by simp only [lowK, hiK]; omega) ?_; refine sA [] rfl ?_
  rw [h3]
  refine ev_arith rfl rfl rfl rfl rfl (by simp only [lowK, hiK]; omega) ?_; refine sA [] rfl ?_; refine ev_arith rfl rfl rfl rfl rfl (by simp only [lowK, hiK]; omega) ?_
  rw [h2]
  skip
  rw [show 0 * (n : Int) + 0 = 0 by omega, show bits .and .u64 0 4294967295 = 0 by decide, show Int.fdiv 0 (2 ^ 32) = 0 by decide, show (1 * 0 : Int) = 0 from rfl]
  refine ev_arith rfl rfl rfl rfl rfl (by simp only [lowK, hiK]; omega) ?_; refine sA [] rfl ?_; refine ev_arith rfl rfl rfl rfl rfl (by simp only [lowK, hiK]; omega) ?_; refine sA [] rfl ?_; refine ev_arith rfl rfl rfl rfl rfl (by simp only [lowK, hiK]; omega) ?_; refine sA [] rfl ?_
  rw [show Int.fdiv (0 + 0) (2 ^ 32) = 0 by decide]
  refine ev_arith rfl rfl rfl rfl rfl (by simp only [lowK, hiK]; omega) ?_; refine sA [] rfl ?_; refine ev_arith rfl rfl rfl rfl rfl (by simp only [lowK, hiK]; omega) ?_; refine sA [] rfl ?_
  rw [h3]
  exact ret2 (.inr rfl) rfl rfl rfl ⟨rfl, rfl⟩
theorem wMul (n : Nat) (w : World) (hn : n ≤ 1000000) : CallsF Tryd.prog 82 [.int .u64 1, .int .u64 n] w fun r w' => r = .tuple #[.int .u64 0, .int .u64 n] ∧ w' = w := by
  refine callsF Tryd.func82 rfl rfl (by decide) rfl ?_
  refine sA [] rfl ?_
  refine ev_call rfl rfl rfl (wMul64 n _ hn) (fun r w1 hr => ?_)
  obtain ⟨rfl, rfl⟩ := hr
  refine sA [] rfl ?_
  exact ret2 (.inr rfl) rfl rfl rfl ⟨rfl, rfl⟩
theorem cut8 {i cap g : Nat} (h : i < cap) : cutA 1 i cap (some ⟨g, 0, none⟩) = some ⟨g, i, none⟩ := by
  unfold cutA; rw [if_neg (by omega)]; simp [Addr.add_lit]
theorem gain_fill {k m n : Nat} (hk : k + m ≤ n) : ((gainF k ++ List.replicate (n - k) 0).map i8v).take k ++ (gainF m).map i8v ++ ((gainF k ++ List.replicate (n - k) (0 : Int8)).map i8v).drop (k + ((gainF m).map i8v).length) = (gainF (k + m) ++ List.replicate (n - (k + m)) 0).map i8v := by
  have h1 : (gainF k).length = k := by simp [gainF]
  have h2 : ((gainF m).map i8v).length = m := by simp [gainF]
  rw [h2, ← List.map_take, ← List.map_drop, ← List.map_append, ← List.map_append]
  congr 1
  rw [List.take_append_of_le_length (by omega), List.take_of_length_le (by omega), List.drop_append, h1, List.drop_eq_nil_of_le (by omega), List.nil_append, List.drop_replicate, show k + m - k = m by omega, show n - k - m = n - (k + m) by omega]
  unfold gainF
  rw [List.replicate_append_replicate]
set_option maxHeartbeats 2000000 in
theorem wRepeat (b n : Nat) (w : World) (hB : R8 w b [64]) (hn : 1 ≤ n ∧ n ≤ 1000000) :
    CallsF Tryd.prog 65 [.slice (some ⟨b, 0, none⟩) 1 1, i64 n] w fun r w' => ∃ q, r = .slice (some ⟨q, 0, none⟩) n n ∧ R8 w' q (gainF n) ∧ w.heap.size ≤ q ∧ Fr no w w' := by
  have hbl := hB.lt
  refine callsF Tryd.func65 rfl rfl (by decide) rfl ?_
  refine sA [] rfl ?_; refine ev_conv rfl rfl tabOk rfl rfl rfl (by simp only [lowK, hiK]; omega) ?_; refine sA [] rfl ?_; refine ev_conv rfl rfl tabOk rfl rfl rfl (by simp only [lowK, hiK]; omega) ?_
  rw [show decide ((n : Int) < 0) = false from decide_eq_false (by omega)]
  skip
  refine ev_call rfl rfl rfl (wMul n _ hn.2) (fun r w1 hr => ?_)
  obtain ⟨rfl, rfl⟩ := hr
  refine sC [] rfl ?_; refine sC [] rfl ?_; refine sC [] rfl ?_; refine sC [] rfl ?_
  rw [show decide ((9223372036854775807 : Int) < n) = false from decide_eq_false (by omega)]
  refine sA [] rfl ?_; refine ev_conv rfl rfl tabOk rfl rfl rfl (by simp only [lowK, hiK]; omega) ?_
  refine ev_make tabOk rfl rfl rfl inf56 rfl rfl (by omega) (by omega) (by omega) (fun q w2 hq hR hf2 => ?_)
  have hR : R8 w2 q (gainF 0 ++ List.replicate (n - 0) 0) := made8 (n := n) rfl hR
  rw [show ((n : Nat) : Int).toNat = n from rfl]
  have hB2 : R8 w2 b [64] := hB.fr0 hf2
  have hlen : ∀ k, k ≤ n → ((gainF k ++ List.replicate (n - k) (0 : Int8)).map i8v).length = n := fun k hk => by simp [gainF]; omega
  refine sA [] rfl ?_
  refine ev_copy tabOk rfl rfl rfl rfl rfl inf56 hR (news := (gainF 1).map i8v) (Cs.of_blk hB2) (by show 1 = Nat.min 1 n; simp [Nat.min_def]; omega) (by rw [hlen 0 (by omega)]; show 0 + 1 ≤ n; omega) i8_one (fun w3 hR3 hf3 => ?_)
  have e := gain_fill (k := 0) (m := 1) (n := n) (by omega)
  have hR3 : R8 w3 q (gainF 1 ++ List.replicate (n - 1) 0) := by
    have h : Blk w3 q _ 56 := hR3
    rw [Nat.zero_add] at h e
    rw [e] at h; exact h
  have hF3 : Fr no w1 w3 := hf2.trans hf3 fun z hz e => by have : z = q := e; omega
  clear hR hB hB2 hf2 hf3
  refine sA [] rfl ?_
  refine ev_loop (α := Nat) (fun y => [(7, .slice (some ⟨q, 0, none⟩) n n), (8, i64 y)]) (fun y w' => 1 ≤ y ∧ y ≤ n ∧ R8 w' q (gainF y ++ List.replicate (n - y) 0) ∧ Fr no w1 w') (fun y => n - y) 1 ⟨rfl, rfl, trivial⟩ ⟨Nat.le_refl _, hn.1, hR3, hF3⟩ ?_
  clear hR3 hF3 e
  rintro k w4 ⟨hk0, hk1, hR, hF⟩
  have hgl : (gainF k).length = k := by simp [gainF]
  refine sC [] rfl ?_; refine sC [] rfl ?_
  refine ev_condD rfl (fun c => ?_) (fun c => ?_)
  · have hk : k < n := by omega
    refine sA [] rfl ?_
    refine mix_in mixed (fun w5 hf5 => ?_)
    have hR5 : R8 w5 q _ := hR.fr0 hf5
    refine mA rfl (by kernel_rfl) (by kernel_rfl) ?_
    refine m_slice (A := some ⟨q, 0, none⟩) (len := n) (cap := n) (i := k) (j := n) 3 rfl rfl rfl (by kernel_rfl) (by kernel_rfl) rfl rfl tabOk rfl rfl rfl rfl (by omega) (by omega) (by omega) ?_
    refine m_slice (A := some ⟨q, 0, none⟩) (len := n) (cap := n) (i := 0) (j := k) 6 rfl rfl rfl (by kernel_rfl) (by kernel_rfl) rfl rfl tabOk rfl rfl rfl rfl (by omega) (by omega) (by omega) ?_
    rw [show ((k : Nat) : Int).toNat = k from rfl, show ((n : Nat) : Int).toNat = n from rfl, show (0 : Int).toNat = 0 from rfl, cut8 hk, cut8 (by omega), Nat.sub_zero, Nat.sub_zero]
    refine mix1 rfl rfl ?_
    have hc5 : Cs w5 (some ⟨q, 0, none⟩) ((gainF (Nat.min k (n - k))).map i8v) := fun j u hj => by
      refine Cs.of_blk hR5 j u ?_
      have hj' : j < Nat.min k (n - k) := by have := (List.getElem?_eq_some_iff.1 hj).1; simpa [gainF] using this
      have hjk : j < k := Nat.lt_of_lt_of_le hj' (Nat.min_le_left _ _)
      rw [← hj, List.getElem?_map, List.getElem?_map, List.getElem?_append_left (by omega)]
      unfold gainF
      rw [List.getElem?_replicate, List.getElem?_replicate, if_pos hjk, if_pos hj']
    have hm : Nat.min k (n - k) ≤ n - k ∧ 1 ≤ Nat.min k (n - k) := by simp only [Nat.min_def]; split <;> omega
    refine ev_copy tabOk rfl rfl rfl rfl rfl inf56 hR5 hc5 (by rw [List.length_map]; simp [gainF]) (by rw [hlen k hk1, List.length_map]; simp only [gainF, List.length_replicate]; omega) i8_one (fun w6 hR6 hf6 => ?_)
    have hR6 : R8 w6 q (gainF (k + Nat.min k (n - k)) ++ List.replicate (n - (k + Nat.min k (n - k))) 0) := by
      have h : Blk w6 q _ 56 := hR6
      rw [gain_fill (by omega)] at h; exact h
    have hml : ((gainF (Nat.min k (n - k))).map i8v).length = Nat.min k (n - k) := by simp [gainF]
    rw [hml]
    have hF6 : Fr no w1 w6 := (hF.tr hf5).trans hf6 fun z hz e => by have : z = q := e; omega
    obtain ⟨m, hm0⟩ : ∃ m, m = Nat.min k (n - k) := ⟨_, rfl⟩
    rw [← hm0] at hm hR6 ⊢
    refine mix_op ?_
    refine m_arith 8 rfl rfl rfl (by kernel_rfl) (by kernel_rfl) rfl rfl rfl rfl rfl (by simp only [lowK, hiK]; omega) ?_
    refine mA rfl (by kernel_rfl) (by kernel_rfl) ?_
    refine mix_out rfl ?_
    refine sA [] rfl ?_
    exact ev_next (k + m) (by omega) ⟨by omega, by omega, hR6, hF6⟩ ⟨rfl, by rw [show ((k + m : Nat) : Int) = (k : Int) + m by omega]; rfl, trivial⟩
  · obtain rfl : k = n := by omega
    rw [Nat.sub_self, List.replicate_zero, List.append_nil] at hR
    refine sA [] rfl ?_
    exact ret1 (.inr rfl) rfl rfl ⟨q, rfl, hR, hq, hF⟩
theorem wGains (n : Nat) (w : World) (hn : 1 ≤ n ∧ n ≤ 1000000) :
    CallsF Tryd.prog 46 [i64 n] w fun r w' => ∃ q, r = .slice (some ⟨q, 0, none⟩) n n ∧ R8 w' q (gainF n) ∧ w.heap.size ≤ q ∧ Fr no w w' := by
  refine callsF Tryd.func46 rfl rfl (by decide) rfl ?_
  refine sA [] rfl ?_
  refine ev_buildSlice tabOk rfl rfl rfl inf56 rfl rfl rfl (by simp [Value.cells]) rfl (fun b w1 hb hB hf1 => ?_)
  have hB : R8 w1 b [64] := hB
  refine sA [] rfl ?_
  refine ev_call rfl rfl rfl (wRepeat b n _ hB hn) (fun r w2 hr => ?_)
  obtain ⟨q, rfl, hR, hq, hf2⟩ := hr
  refine sA [] rfl ?_
  exact ret1 (.inr rfl) rfl rfl ⟨q, rfl, hR, Nat.le_trans hf1.size hq, hf1.tr hf2⟩
theorem refSameN (n : Nat) (w : World) (hn : n ≤ 1000000) : CallsF Tryd.prog 42 [.int .i8 64, i64 n] w fun r w' => N8 w w' r (gainF n) := by
  refine callsF Tryd.func42 rfl rfl (by decide) rfl ?_
  refine sA [] rfl ?_
  refine ev_buildSlice tabOk rfl rfl rfl inf56 rfl rfl rfl (fun _ h => by cases h) rfl (fun b w1 hb hb1 hf1 => ?_)
  have hb1 : R8 w1 b [] := hb1
  have hN1 : N8 w w1 (.slice (some ⟨b, 0, none⟩) 0 0) (gainF 0) := N8.of (xs := []) hb1 hb hf1 (Nat.zero_le _)
  refine sA [] rfl ?_
  refine ev_loop (α := Nat × Value) (fun y => [(0, .int .i8 64), (1, i64 n), (5, y.2), (6, i64 y.1)]) (fun y w' => y.1 ≤ n ∧ N8 w w' y.2 (gainF y.1)) (fun y => n - y.1) (0, _) ⟨rfl, rfl, rfl, rfl, trivial⟩ ⟨Nat.zero_le _, hN1⟩ ?_
  clear hN1 hb1
  rintro ⟨i, v⟩ w2 ⟨hi, hN⟩
  simp only at hi hN
  have hgl : (gainF i).length = i := by simp [gainF]
  refine sC [] rfl ?_; refine sD [] rfl ?_; refine sD [] rfl ?_; refine sD [] rfl ?_
  refine ev_condD rfl (fun c => ?_) (fun c => ?_)
  · have hi : i < n := by omega
    refine sA [] rfl ?_
    refine ev_append1 tabOk rfl rfl (fun _ => rfl) rfl rfl inf56 rfl (by omega) (fun _ => rfl) rfl rfl (by simp [Value.cells]) (by simp [flatV, Value.cells, Value.oneCell']) rfl hN.1 (by omega) (fun v5 w5 g ho5 hf5 hn5 => ?_)
    have hN5 := hN.app (ys := [64]) ho5 hf5 hn5
    rw [show gainF i ++ [64] = gainF (i + 1) by unfold gainF; rw [List.replicate_succ']] at hN5
    refine sA [] rfl ?_; refine ev_arith rfl rfl rfl rfl rfl (by simp only [lowK, hiK]; omega) ?_; refine sA [] rfl ?_
    exact ev_next (i + 1, v5) (by simp only; omega) ⟨hi, hN5⟩ ⟨rfl, rfl, rfl, by rw [show ((i + 1 : Nat) : Int) = (i : Int) + 1 by omega]; rfl, trivial⟩
  · obtain rfl : i = n := by omega
    refine sA [] rfl ?_
    exact ret1 (.inr rfl) rfl rfl hN
end Go.Wk.YtfgllkflnkolhaaDoor
namespace Go.Wk.YtfgllkflnkolhaaDoor
open Go Go.Wk Go.Proofs

structure Shp where
  voc : Int
  ctx : Int
  dim : Int
  hds : Int
  lay : Int
  hid : Int
  deriving DecidableEq
abbrev shpC (s : Shp) : List Value := [i64 s.voc, i64 s.ctx, i64 s.dim, i64 s.hds, i64 s.lay, i64 s.hid]
abbrev shpV (s : Shp) : Value := .agg ⟨shpC s⟩
def okS (s : Shp) : Prop := (2 ≤ s.voc ∧ s.voc ≤ 512) ∧ (1 ≤ s.ctx ∧ s.ctx ≤ 512) ∧ (2 ≤ s.dim ∧ s.dim ≤ 64) ∧ 1 ≤ s.hds ∧ s.dim % s.hds = 0 ∧ s.dim / s.hds % 2 = 0 ∧ (1 ≤ s.lay ∧ s.lay ≤ 8) ∧ (1 ≤ s.hid ∧ s.hid ≤ 256)
instance (s : Shp) : Decidable (okS s) := by unfold okS; infer_instance
def chkS (s : Shp) : Int := if okS s then 0 else 160
theorem chk_y {s : Shp} (h : okS s) : chkS s = 0 := if_pos h
theorem chk_n {s : Shp} (h : ¬ okS s) : chkS s = 160 := if_neg h
def halfS (s : Shp) : Int := if okS s then s.dim / s.hds / 2 else 0
def numS (s : Shp) : Int := if okS s then 2 * s.voc * s.dim + 2 * s.ctx * halfS s + s.lay * (2 * s.dim + 4 * s.dim * s.dim + 3 * s.dim * s.hid) + 256 + s.dim else 0
theorem half_bd {s : Shp} (h : okS s) : 1 ≤ halfS s ∧ halfS s ≤ 32 ∧ s.dim / s.hds = 2 * halfS s := by
  obtain ⟨h1, h2, h3, h4, h5, h6, h7, h8⟩ := h
  have e : halfS s = s.dim / s.hds / 2 := if_pos ⟨h1, h2, h3, h4, h5, h6, h7, h8⟩
  have hb := (ediv_bd (x := s.dim) (d := s.hds) h4).1 (by omega)
  have hm := Int.mul_ediv_add_emod s.dim s.hds
  have hne : s.dim / s.hds ≠ 0 := fun z => by rw [z, h5] at hm; omega
  omega
theorem wBetween (n lo hi : Int) (w : World) : CallsF Tryd.prog 38 [i64 n, i64 lo, i64 hi] w fun r w' => r = .bool (decide (lo ≤ n ∧ n ≤ hi)) ∧ w' = w := by
  refine callsF Tryd.func38 rfl rfl (by decide) rfl ?_
  refine sC [] rfl ?_; refine sC [] rfl ?_; refine sD [] rfl ?_; refine sD [] rfl ?_
  by_cases h1 : lo ≤ n
  · rw [show decide (lo ≤ n) = true from decide_eq_true h1]
    refine sA [] rfl ?_
    exact ret1 (.inr rfl) rfl rfl ⟨congrArg Value.bool (decide_eq_decide.2 ⟨fun h => ⟨h1, h⟩, fun h => h.2⟩), rfl⟩
  · rw [show decide (lo ≤ n) = false from decide_eq_false h1]
    refine sA [] rfl ?_
    exact ret1 (.inr rfl) rfl rfl ⟨congrArg Value.bool (decide_eq_false fun h => h1 h.1).symm, rfl⟩
theorem refWithin (n lo hi : Int) (w : World) : CallsF Tryd.prog 39 [i64 n, i64 lo, i64 hi] w fun r w' => r = .bool (decide (lo ≤ n ∧ n ≤ hi)) ∧ w' = w := by
  refine callsF Tryd.func39 rfl rfl (by decide) rfl ?_
  refine sC [] rfl ?_; refine sC [] rfl ?_; refine sD [] rfl ?_; refine sD [] rfl ?_
  by_cases h1 : lo ≤ n
  · rw [show decide (lo ≤ n) = true from decide_eq_true h1]
    refine sA [] rfl ?_
    exact ret1 (.inr rfl) rfl rfl ⟨congrArg Value.bool (decide_eq_decide.2 ⟨fun h => ⟨h1, h⟩, fun h => h.2⟩), rfl⟩
  · rw [show decide (lo ≤ n) = false from decide_eq_false h1]
    refine sA [] rfl ?_
    exact ret1 (.inr rfl) rfl rfl ⟨congrArg Value.bool (decide_eq_false fun h => h1 h.1).symm, rfl⟩
set_option maxHeartbeats 2000000 in
theorem wChk (s : Shp) (w : World) : CallsF Tryd.prog 15 [shpV s] w fun r w' => r = i64 (chkS s) ∧ Fr no w w' := by
  refine callsF Tryd.func15 rfl rfl (by decide) rfl ?_
  refine sA [] rfl ?_
  refine ev_box rfl rfl rfl (fun b w1 hb hB hf1 => ?_)
  have hB : Blk w1 b (shpC s) _ := hB
  refine sA [] rfl ?_; refine ev_loadB rfl rfl tabOk rfl rfl ‹_› (by rfl) ?_
  refine ev_call rfl rfl rfl (wBetween s.voc 2 512 _) (fun r w2 hr => ?_)
  obtain ⟨rfl, rfl⟩ := hr
  by_cases o1 : 2 ≤ s.voc ∧ s.voc ≤ 512
  case neg =>
    rw [decide_eq_false o1]
    refine sA [] rfl ?_
    exact ret1 (.inr rfl) rfl rfl ⟨by rw [chk_n fun h => o1 h.1], hf1⟩
  rw [decide_eq_true o1]
  refine sA [] rfl ?_; refine ev_loadB rfl rfl tabOk rfl rfl ‹_› (by rfl) ?_
  refine ev_call rfl rfl rfl (wBetween s.ctx 1 512 _) (fun r w2 hr => ?_)
  obtain ⟨rfl, rfl⟩ := hr
  by_cases o2 : 1 ≤ s.ctx ∧ s.ctx ≤ 512
  case neg =>
    rw [decide_eq_false o2]
    refine sA [] rfl ?_
    exact ret1 (.inr rfl) rfl rfl ⟨by rw [chk_n fun h => o2 h.2.1], hf1⟩
  rw [decide_eq_true o2]
  refine sA [] rfl ?_; refine ev_loadB rfl rfl tabOk rfl rfl ‹_› (by rfl) ?_
  refine ev_call rfl rfl rfl (wBetween s.dim 2 64 _) (fun r w2 hr => ?_)
  obtain ⟨rfl, rfl⟩ := hr
  by_cases o3 : 2 ≤ s.dim ∧ s.dim ≤ 64
  case neg =>
    rw [decide_eq_false o3]
    refine sA [] rfl ?_
    exact ret1 (.inr rfl) rfl rfl ⟨by rw [chk_n fun h => o3 h.2.2.1], hf1⟩
  rw [decide_eq_true o3]
  refine sA [] rfl ?_; refine ev_loadB rfl rfl tabOk rfl rfl ‹_› (by rfl) ?_; refine sD [] rfl ?_; refine sD [] rfl ?_; refine sD [] rfl ?_
  by_cases o4 : 1 ≤ s.hds
  case neg =>
    rw [show decide (s.hds < 1) = true from decide_eq_true (by omega)]
    refine sA [] rfl ?_
    exact ret1 (.inr rfl) rfl rfl ⟨by rw [chk_n fun h => o4 h.2.2.2.1], hf1⟩
  rw [show decide (s.hds < 1) = false from decide_eq_false (by omega)]
  refine sA [] rfl ?_; refine ev_loadB rfl rfl tabOk rfl rfl ‹_› (by rfl) ?_; refine sA [] rfl ?_; refine ev_loadB rfl rfl tabOk rfl rfl ‹_› (by rfl) ?_; refine ev_rem rfl rfl rfl rfl (by omega) (by omega) ?_; refine sD [] rfl ?_; refine sD [] rfl ?_; refine sD [] rfl ?_
  by_cases o5 : s.dim % s.hds = 0
  case neg =>
    rw [show decide (¬ s.dim % s.hds = 0) = true from decide_eq_true o5]
    refine sA [] rfl ?_
    exact ret1 (.inr rfl) rfl rfl ⟨by rw [chk_n fun h => o5 h.2.2.2.2.1], hf1⟩
  rw [show decide (¬ s.dim % s.hds = 0) = false from decide_eq_false fun z => z o5]
  have hq := (ediv_bd (x := s.dim) (d := s.hds) o4).1 (by omega)
  refine sA [] rfl ?_; refine ev_loadB rfl rfl tabOk rfl rfl ‹_› (by rfl) ?_; refine sA [] rfl ?_; refine ev_loadB rfl rfl tabOk rfl rfl ‹_› (by rfl) ?_; refine ev_quo rfl rfl rfl rfl (by omega) (by omega) (by simp only [hiK]; omega) ?_; refine ev_rem rfl rfl rfl rfl (by omega) (by omega) ?_; refine sD [] rfl ?_; refine sD [] rfl ?_; refine sD [] rfl ?_
  by_cases o6 : s.dim / s.hds % 2 = 0
  case neg =>
    rw [show decide (¬ s.dim / s.hds % 2 = 0) = true from decide_eq_true o6]
    refine sA [] rfl ?_
    exact ret1 (.inr rfl) rfl rfl ⟨by rw [chk_n fun h => o6 h.2.2.2.2.2.1], hf1⟩
  rw [show decide (¬ s.dim / s.hds % 2 = 0) = false from decide_eq_false fun z => z o6]
  refine sA [] rfl ?_; refine ev_loadB rfl rfl tabOk rfl rfl ‹_› (by rfl) ?_
  refine ev_call rfl rfl rfl (wBetween s.lay 1 8 _) (fun r w2 hr => ?_)
  obtain ⟨rfl, rfl⟩ := hr
  by_cases o7 : 1 ≤ s.lay ∧ s.lay ≤ 8
  case neg =>
    rw [decide_eq_false o7]
    refine sA [] rfl ?_
    exact ret1 (.inr rfl) rfl rfl ⟨by rw [chk_n fun h => o7 h.2.2.2.2.2.2.1], hf1⟩
  rw [decide_eq_true o7]
  refine sA [] rfl ?_; refine ev_loadB rfl rfl tabOk rfl rfl ‹_› (by rfl) ?_
  refine ev_call rfl rfl rfl (wBetween s.hid 1 256 _) (fun r w2 hr => ?_)
  obtain ⟨rfl, rfl⟩ := hr
  by_cases o8 : 1 ≤ s.hid ∧ s.hid ≤ 256
  case neg =>
    rw [decide_eq_false o8]
    refine sA [] rfl ?_
    exact ret1 (.inr rfl) rfl rfl ⟨by rw [chk_n fun h => o8 h.2.2.2.2.2.2.2], hf1⟩
  rw [decide_eq_true o8]
  refine sA [] rfl ?_
  exact ret1 (.inr rfl) rfl rfl ⟨by rw [chk_y ⟨o1, o2, o3, o4, o5, o6, o7, o8⟩], hf1⟩
set_option maxHeartbeats 2000000 in
theorem refChk (s : Shp) (w : World) : CallsF Tryd.prog 16 [shpV s] w fun r w' => r = i64 (chkS s) ∧ Fr no w w' := by
  refine callsF Tryd.func16 rfl rfl (by decide) rfl ?_
  refine sA [] rfl ?_
  refine ev_box rfl rfl rfl (fun b w1 hb hB hf1 => ?_)
  have hB : Blk w1 b (shpC s) _ := hB
  refine sA [] rfl ?_; refine ev_loadB rfl rfl tabOk rfl rfl ‹_› (by rfl) ?_
  refine ev_call rfl rfl rfl (refWithin s.voc 2 512 _) (fun r w2 hr => ?_)
  obtain ⟨rfl, rfl⟩ := hr
  by_cases o1 : 2 ≤ s.voc ∧ s.voc ≤ 512
  case neg =>
    rw [decide_eq_false o1]
    refine sA [] rfl ?_
    exact ret1 (.inr rfl) rfl rfl ⟨by rw [chk_n fun h => o1 h.1], hf1⟩
  rw [decide_eq_true o1]
  refine sA [] rfl ?_; refine ev_loadB rfl rfl tabOk rfl rfl ‹_› (by rfl) ?_
  refine ev_call rfl rfl rfl (refWithin s.ctx 1 512 _) (fun r w2 hr => ?_)
  obtain ⟨rfl, rfl⟩ := hr
  by_cases o2 : 1 ≤ s.ctx ∧ s.ctx ≤ 512
  case neg =>
    rw [decide_eq_false o2]
    refine sA [] rfl ?_
    exact ret1 (.inr rfl) rfl rfl ⟨by rw [chk_n fun h => o2 h.2.1], hf1⟩
  rw [decide_eq_true o2]
  refine sA [] rfl ?_; refine ev_loadB rfl rfl tabOk rfl rfl ‹_› (by rfl) ?_
  refine ev_call rfl rfl rfl (refWithin s.dim 2 64 _) (fun r w2 hr => ?_)
  obtain ⟨rfl, rfl⟩ := hr
  by_cases o3 : 2 ≤ s.dim ∧ s.dim ≤ 64
  case neg =>
    rw [decide_eq_false o3]
    refine sA [] rfl ?_
    exact ret1 (.inr rfl) rfl rfl ⟨by rw [chk_n fun h => o3 h.2.2.1], hf1⟩
  rw [decide_eq_true o3]
  refine sA [] rfl ?_; refine ev_loadB rfl rfl tabOk rfl rfl ‹_› (by rfl) ?_
  refine ev_call rfl rfl rfl (refWithin s.lay 1 8 _) (fun r w2 hr => ?_)
  obtain ⟨rfl, rfl⟩ := hr
  by_cases o7 : 1 ≤ s.lay ∧ s.lay ≤ 8
  case neg =>
    rw [decide_eq_false o7]
    refine sA [] rfl ?_
    exact ret1 (.inr rfl) rfl rfl ⟨by rw [chk_n fun h => o7 h.2.2.2.2.2.2.1], hf1⟩
  rw [decide_eq_true o7]
  refine sA [] rfl ?_; refine ev_loadB rfl rfl tabOk rfl rfl ‹_› (by rfl) ?_
  refine ev_call rfl rfl rfl (refWithin s.hid 1 256 _) (fun r w2 hr => ?_)
  obtain ⟨rfl, rfl⟩ := hr
  by_cases o8 : 1 ≤ s.hid ∧ s.hid ≤ 256
  case neg =>
    rw [decide_eq_false o8]
    refine sA [] rfl ?_
    exact ret1 (.inr rfl) rfl rfl ⟨by rw [chk_n fun h => o8 h.2.2.2.2.2.2.2], hf1⟩
  rw [decide_eq_true o8]
  refine sA [] rfl ?_; refine ev_loadB rfl rfl tabOk rfl rfl ‹_› (by rfl) ?_; refine sD [] rfl ?_; refine sD [] rfl ?_
  by_cases o4 : 1 ≤ s.hds
  case neg =>
    rw [show decide (s.hds < 1) = true from decide_eq_true (by omega)]
    refine sA [] rfl ?_
    exact ret1 (.inr rfl) rfl rfl ⟨by rw [chk_n fun h => o4 h.2.2.2.1], hf1⟩
  rw [show decide (s.hds < 1) = false from decide_eq_false (by omega)]
  refine sA [] rfl ?_; refine ev_loadB rfl rfl tabOk rfl rfl ‹_› (by rfl) ?_; refine sA [] rfl ?_; refine ev_loadB rfl rfl tabOk rfl rfl ‹_› (by rfl) ?_; refine ev_rem rfl rfl rfl rfl (by omega) (by omega) ?_; refine sD [] rfl ?_; refine sD [] rfl ?_; refine sD [] rfl ?_
  by_cases o5 : s.dim % s.hds = 0
  case neg =>
    rw [show decide (¬ s.dim % s.hds = 0) = true from decide_eq_true o5]
    refine sA [] rfl ?_
    exact ret1 (.inr rfl) rfl rfl ⟨by rw [chk_n fun h => o5 h.2.2.2.2.1], hf1⟩
  rw [show decide (¬ s.dim % s.hds = 0) = false from decide_eq_false fun z => z o5]
  have hq := (ediv_bd (x := s.dim) (d := s.hds) o4).1 (by omega)
  refine sA [] rfl ?_; refine ev_loadB rfl rfl tabOk rfl rfl ‹_› (by rfl) ?_; refine sA [] rfl ?_; refine ev_loadB rfl rfl tabOk rfl rfl ‹_› (by rfl) ?_; refine ev_quo rfl rfl rfl rfl (by omega) (by omega) (by simp only [hiK]; omega) ?_; refine ev_rem rfl rfl rfl rfl (by omega) (by omega) ?_; refine sD [] rfl ?_; refine sD [] rfl ?_; refine sD [] rfl ?_
  by_cases o6 : s.dim / s.hds % 2 = 0
  case neg =>
    rw [show decide (¬ s.dim / s.hds % 2 = 0) = true from decide_eq_true o6]
    refine sA [] rfl ?_
    exact ret1 (.inr rfl) rfl rfl ⟨by rw [chk_n fun h => o6 h.2.2.2.2.2.1], hf1⟩
  rw [show decide (¬ s.dim / s.hds % 2 = 0) = false from decide_eq_false fun z => z o6]
  refine sA [] rfl ?_
  exact ret1 (.inr rfl) rfl rfl ⟨by rw [chk_y ⟨o1, o2, o3, o4, o5, o6, o7, o8⟩], hf1⟩
theorem wHalf (s : Shp) (w : World) : CallsF Tryd.prog 17 [shpV s] w fun r w' => r = i64 (halfS s) ∧ Fr no w w' := by
  refine callsF Tryd.func17 rfl rfl (by decide) rfl ?_
  refine sA [] rfl ?_
  refine ev_box rfl rfl rfl (fun b w1 hb hB hf1 => ?_)
  have hB : Blk w1 b (shpC s) _ := hB
  refine sA [] rfl ?_; refine ev_loadAggB rfl rfl tabOk rfl rfl ‹_› (by rfl) ?_
  refine ev_call rfl rfl rfl (wChk s _) (fun r w2 hr => ?_)
  obtain ⟨rfl, hf2⟩ := hr
  have hf2 := hf1.tr hf2
  have hB := hB.fr0 (show Fr no w1 w2 by assumption)
  by_cases o : okS s
  · rw [chk_y o]
    have h := o
    obtain ⟨h1, h2, h3, h4, h5, h6, h7, h8⟩ := h
    have hq := (ediv_bd (x := s.dim) (d := s.hds) h4).1 (by omega)
    refine sA [] rfl ?_; refine ev_loadB rfl rfl tabOk rfl rfl ‹_› (by rfl) ?_; refine sA [] rfl ?_; refine ev_loadB rfl rfl tabOk rfl rfl ‹_› (by rfl) ?_; refine ev_quo rfl rfl rfl rfl (by omega) (by omega) (by simp only [hiK]; omega) ?_; refine ev_quo rfl rfl rfl rfl (by omega) (by omega) (by simp only [hiK]; omega) ?_; refine sA [] rfl ?_
    exact ret1 (.inr rfl) rfl rfl ⟨by unfold halfS; rw [if_pos o], hf2⟩
  · rw [chk_n o]
    refine sA [] rfl ?_
    exact ret1 (.inr rfl) rfl rfl ⟨by unfold halfS; rw [if_neg o], hf2⟩
theorem refHalf (s : Shp) (w : World) : CallsF Tryd.prog 18 [shpV s] w fun r w' => r = i64 (halfS s) ∧ Fr no w w' := by
  refine callsF Tryd.func18 rfl rfl (by decide) rfl ?_
  refine sA [] rfl ?_
  refine ev_box rfl rfl rfl (fun b w1 hb hB hf1 => ?_)
  have hB : Blk w1 b (shpC s) _ := hB
  refine sA [] rfl ?_; refine ev_loadAggB rfl rfl tabOk rfl rfl ‹_› (by rfl) ?_
  refine ev_call rfl rfl rfl (refChk s _) (fun r w2 hr => ?_)
  obtain ⟨rfl, hf2⟩ := hr
  have hf2 := hf1.tr hf2
  have hB := hB.fr0 (show Fr no w1 w2 by assumption)
  by_cases o : okS s
  · rw [chk_y o]
    have h := o
    obtain ⟨h1, h2, h3, h4, h5, h6, h7, h8⟩ := h
    have hq := (ediv_bd (x := s.dim) (d := s.hds) h4).1 (by omega)
    refine sA [] rfl ?_; refine ev_loadB rfl rfl tabOk rfl rfl ‹_› (by rfl) ?_; refine sA [] rfl ?_; refine ev_loadB rfl rfl tabOk rfl rfl ‹_› (by rfl) ?_; refine ev_quo rfl rfl rfl rfl (by omega) (by omega) (by simp only [hiK]; omega) ?_; refine ev_quo rfl rfl rfl rfl (by omega) (by omega) (by simp only [hiK]; omega) ?_; refine sA [] rfl ?_
    exact ret1 (.inr rfl) rfl rfl ⟨by unfold halfS; rw [if_pos o], hf2⟩
  · rw [chk_n o]
    refine sA [] rfl ?_
    exact ret1 (.inr rfl) rfl rfl ⟨by unfold halfS; rw [if_neg o], hf2⟩
theorem mul_bd {a b m k : Int} (h0 : 0 ≤ a) (h1 : a ≤ m) (h2 : 0 ≤ b) (h3 : b ≤ k) : 0 ≤ a * b ∧ a * b ≤ m * k :=
  ⟨Int.mul_nonneg h0 h2, Int.mul_le_mul h1 h3 h2 (Int.le_trans h0 h1)⟩
set_option maxHeartbeats 2000000 in
theorem wNum (s : Shp) (w : World) : CallsF Tryd.prog 12 [shpV s] w fun r w' => r = .tuple #[i64 (numS s), i64 (chkS s)] ∧ Fr no w w' := by
  refine callsF Tryd.func12 rfl rfl (by decide) rfl ?_
  refine sA [] rfl ?_
  refine ev_box rfl rfl rfl (fun b w1 hb hB hf1 => ?_)
  have hB : Blk w1 b (shpC s) _ := hB
  refine sA [] rfl ?_; refine ev_loadAggB rfl rfl tabOk rfl rfl ‹_› (by rfl) ?_
  refine ev_call rfl rfl rfl (wChk s _) (fun r w2 hr => ?_)
  obtain ⟨rfl, hf2⟩ := hr
  have hF2 := hf1.tr hf2
  have hB2 := hB.fr0 hf2
  clear hB
  by_cases o : okS s
  · rw [chk_y o]
    obtain ⟨k1, k2, k3⟩ := half_bd o
    have h := o
    obtain ⟨h1, h2, h3, h4, h5, h6, h7, h8⟩ := h
    have m1 : 0 ≤ 4 * s.dim * s.dim ∧ 4 * s.dim * s.dim ≤ 256 * 64 := mul_bd (by omega) (by omega) (by omega) (by omega)
    have m2 : 0 ≤ 3 * s.dim * s.hid ∧ 3 * s.dim * s.hid ≤ 192 * 256 := mul_bd (by omega) (by omega) (by omega) (by omega)
    have m3 : 0 ≤ 2 * s.voc * s.dim ∧ 2 * s.voc * s.dim ≤ 1024 * 64 := mul_bd (by omega) (by omega) (by omega) (by omega)
    have m4 : 0 ≤ 2 * s.ctx * halfS s ∧ 2 * s.ctx * halfS s ≤ 1024 * 32 := mul_bd (by omega) (by omega) (by omega) (by omega)
    have m5 : 0 ≤ s.lay * (2 * s.dim + 4 * s.dim * s.dim + 3 * s.dim * s.hid) ∧ s.lay * (2 * s.dim + 4 * s.dim * s.dim + 3 * s.dim * s.hid) ≤ 8 * 100000 := mul_bd (by omega) (by omega) (by omega) (by omega)
    refine sA [] rfl ?_; refine ev_loadB rfl rfl tabOk rfl rfl ‹_› (by rfl) ?_; refine ev_arith rfl rfl rfl rfl rfl (by simp only [lowK, hiK]; omega) ?_; refine sA [] rfl ?_; refine ev_loadB rfl rfl tabOk rfl rfl ‹_› (by rfl) ?_; refine ev_arith rfl rfl rfl rfl rfl (by simp only [lowK, hiK]; omega) ?_; refine sA [] rfl ?_; refine ev_loadB rfl rfl tabOk rfl rfl ‹_› (by rfl) ?_; refine ev_arith rfl rfl rfl rfl rfl (by simp only [lowK, hiK]; omega) ?_; refine ev_arith rfl rfl rfl rfl rfl (by simp only [lowK, hiK]; omega) ?_; refine sA [] rfl ?_; refine ev_loadB rfl rfl tabOk rfl rfl ‹_› (by rfl) ?_; refine ev_arith rfl rfl rfl rfl rfl (by simp only [lowK, hiK]; omega) ?_; refine sA [] rfl ?_; refine ev_loadB rfl rfl tabOk rfl rfl ‹_› (by rfl) ?_; refine ev_arith rfl rfl rfl rfl rfl (by simp only [lowK, hiK]; omega) ?_; refine ev_arith rfl rfl rfl rfl rfl (by simp only [lowK, hiK]; omega) ?_; refine sA [] rfl ?_
    refine ev_draw mixed (by kernel_rfl) ?_
    refine qA rfl ?_; refine q_loadB rfl rfl tabOk rfl rfl ‹_› (by rfl) ?_; refine q_arith rfl rfl rfl rfl rfl (by simp only [lowK, hiK]; omega) ?_; refine qA rfl ?_; refine q_loadB rfl rfl tabOk rfl rfl ‹_› (by rfl) ?_; refine q_arith rfl rfl rfl rfl rfl (by simp only [lowK, hiK]; omega) ?_; refine qA rfl ?_; refine q_loadB rfl rfl tabOk rfl rfl ‹_› (by rfl) ?_; refine q_arith rfl rfl rfl rfl rfl (by simp only [lowK, hiK]; omega) ?_; refine q_loadAggB rfl rfl tabOk rfl rfl ‹_› (by rfl) ?_
    refine q_call rfl rfl rfl (fun w' hw' => (wHalf s w').mono fun u w'' z => ⟨z.1, hw'.tr z.2⟩) ?_
    refine q_arith rfl rfl rfl rfl rfl (by simp only [lowK, hiK]; omega) ?_; refine q_arith rfl rfl rfl rfl rfl (by simp only [lowK, hiK]; omega) ?_; refine qA rfl ?_; refine q_loadB rfl rfl tabOk rfl rfl ‹_› (by rfl) ?_; refine qA rfl ?_; refine q_arith rfl rfl rfl rfl rfl (by simp only [lowK, hiK]; omega) ?_; refine q_arith rfl rfl rfl rfl rfl (by simp only [lowK, hiK]; omega) ?_; refine q_arith rfl rfl rfl rfl rfl (by simp only [lowK, hiK]; omega) ?_; refine qA rfl ?_; refine q_loadB rfl rfl tabOk rfl rfl ‹_› (by rfl) ?_; refine q_arith rfl rfl rfl rfl rfl (by simp only [lowK, hiK]; omega) ?_; refine qA rfl ?_
    refine q_end fun w3 hf3 => ?_
    refine sA [] rfl ?_
    exact ret2 (.inr rfl) rfl rfl rfl ⟨by unfold numS; rw [if_pos o], hF2.tr hf3⟩
  · rw [chk_n o]
    refine sA [] rfl ?_
    exact ret2 (.inr rfl) rfl rfl rfl ⟨by unfold numS; rw [if_neg o], hF2⟩
set_option maxHeartbeats 2000000 in
theorem refNum (s : Shp) (w : World) : CallsF Tryd.prog 13 [shpV s] w fun r w' => r = .tuple #[i64 (numS s), i64 (chkS s)] ∧ Fr no w w' := by
  refine callsF Tryd.func13 rfl rfl (by decide) rfl ?_
  refine sA [] rfl ?_
  refine ev_box rfl rfl rfl (fun b w1 hb hB hf1 => ?_)
  have hB : Blk w1 b (shpC s) _ := hB
  refine sA [] rfl ?_; refine ev_loadAggB rfl rfl tabOk rfl rfl ‹_› (by rfl) ?_
  refine ev_call rfl rfl rfl (refChk s _) (fun r w2 hr => ?_)
  obtain ⟨rfl, hf2⟩ := hr
  have hF2 := hf1.tr hf2
  have hB2 := hB.fr0 hf2
  clear hB
  by_cases o : okS s
  · rw [chk_y o]
    obtain ⟨k1, k2, k3⟩ := half_bd o
    have h := o
    obtain ⟨h1, h2, h3, h4, h5, h6, h7, h8⟩ := h
    have m1 : 0 ≤ 4 * s.dim * s.dim ∧ 4 * s.dim * s.dim ≤ 256 * 64 := mul_bd (by omega) (by omega) (by omega) (by omega)
    have m2 : 0 ≤ 3 * s.dim * s.hid ∧ 3 * s.dim * s.hid ≤ 192 * 256 := mul_bd (by omega) (by omega) (by omega) (by omega)
    have m3 : 0 ≤ 2 * s.voc * s.dim ∧ 2 * s.voc * s.dim ≤ 1024 * 64 := mul_bd (by omega) (by omega) (by omega) (by omega)
    have m4 : 0 ≤ 2 * s.ctx * halfS s ∧ 2 * s.ctx * halfS s ≤ 1024 * 32 := mul_bd (by omega) (by omega) (by omega) (by omega)
    have m5 : 0 ≤ s.lay * (2 * s.dim + 4 * s.dim * s.dim + 3 * s.dim * s.hid) ∧ s.lay * (2 * s.dim + 4 * s.dim * s.dim + 3 * s.dim * s.hid) ≤ 8 * 100000 := mul_bd (by omega) (by omega) (by omega) (by omega)
    refine sA [] rfl ?_; refine ev_loadB rfl rfl tabOk rfl rfl ‹_› (by rfl) ?_; refine ev_arith rfl rfl rfl rfl rfl (by simp only [lowK, hiK]; omega) ?_; refine sA [] rfl ?_; refine ev_loadB rfl rfl tabOk rfl rfl ‹_› (by rfl) ?_; refine ev_arith rfl rfl rfl rfl rfl (by simp only [lowK, hiK]; omega) ?_; refine sA [] rfl ?_; refine ev_loadB rfl rfl tabOk rfl rfl ‹_› (by rfl) ?_; refine ev_arith rfl rfl rfl rfl rfl (by simp only [lowK, hiK]; omega) ?_; refine ev_arith rfl rfl rfl rfl rfl (by simp only [lowK, hiK]; omega) ?_; refine sA [] rfl ?_; refine ev_loadB rfl rfl tabOk rfl rfl ‹_› (by rfl) ?_; refine ev_arith rfl rfl rfl rfl rfl (by simp only [lowK, hiK]; omega) ?_; refine sA [] rfl ?_; refine ev_loadB rfl rfl tabOk rfl rfl ‹_› (by rfl) ?_; refine ev_arith rfl rfl rfl rfl rfl (by simp only [lowK, hiK]; omega) ?_; refine ev_arith rfl rfl rfl rfl rfl (by simp only [lowK, hiK]; omega) ?_; refine sA [] rfl ?_
    refine ev_draw mixed (by kernel_rfl) ?_
    refine qA rfl ?_; refine q_loadB rfl rfl tabOk rfl rfl ‹_› (by rfl) ?_; refine q_arith rfl rfl rfl rfl rfl (by simp only [lowK, hiK]; omega) ?_; refine qA rfl ?_; refine q_loadB rfl rfl tabOk rfl rfl ‹_› (by rfl) ?_; refine q_arith rfl rfl rfl rfl rfl (by simp only [lowK, hiK]; omega) ?_; refine qA rfl ?_; refine q_loadB rfl rfl tabOk rfl rfl ‹_› (by rfl) ?_; refine q_arith rfl rfl rfl rfl rfl (by simp only [lowK, hiK]; omega) ?_; refine q_loadAggB rfl rfl tabOk rfl rfl ‹_› (by rfl) ?_
    refine q_call rfl rfl rfl (fun w' hw' => (refHalf s w').mono fun u w'' z => ⟨z.1, hw'.tr z.2⟩) ?_
    refine q_arith rfl rfl rfl rfl rfl (by simp only [lowK, hiK]; omega) ?_; refine q_arith rfl rfl rfl rfl rfl (by simp only [lowK, hiK]; omega) ?_; refine qA rfl ?_; refine q_loadB rfl rfl tabOk rfl rfl ‹_› (by rfl) ?_; refine qA rfl ?_; refine q_arith rfl rfl rfl rfl rfl (by simp only [lowK, hiK]; omega) ?_; refine q_arith rfl rfl rfl rfl rfl (by simp only [lowK, hiK]; omega) ?_; refine q_arith rfl rfl rfl rfl rfl (by simp only [lowK, hiK]; omega) ?_; refine qA rfl ?_; refine q_loadB rfl rfl tabOk rfl rfl ‹_› (by rfl) ?_; refine q_arith rfl rfl rfl rfl rfl (by simp only [lowK, hiK]; omega) ?_; refine qA rfl ?_
    refine q_end fun w3 hf3 => ?_
    refine sA [] rfl ?_
    exact ret2 (.inr rfl) rfl rfl rfl ⟨by unfold numS; rw [if_pos o], hF2.tr hf3⟩
  · rw [chk_n o]
    refine sA [] rfl ?_
    exact ret2 (.inr rfl) rfl rfl rfl ⟨by unfold numS; rw [if_neg o], hF2⟩
theorem lPlain (s : Shp) (w : World) : CallsF Tryd.prog 14 [shpV s] w fun r w' => r = shpV s ∧ Fr no w w' := by
  refine callsF Tryd.func14 rfl rfl (by decide) rfl ?_
  refine sA [] rfl ?_
  refine ev_box rfl rfl rfl (fun b w1 hb hB hf1 => ?_)
  have hB : Blk w1 b (shpC s) _ := hB
  refine ev_alloc rfl rfl inf30 (fun c w2 hc hC hf2 => ?_)
  have hB2 := hB.fr0 hf2
  clear hB
  refine sA [] rfl ?_; refine ev_loadB rfl rfl tabOk rfl rfl ‹_› (by rfl) ?_; refine sA [] rfl ?_; refine ev_loadB rfl rfl tabOk rfl rfl ‹_› (by rfl) ?_; refine sA [] rfl ?_; refine ev_loadB rfl rfl tabOk rfl rfl ‹_› (by rfl) ?_; refine sA [] rfl ?_; refine ev_loadB rfl rfl tabOk rfl rfl ‹_› (by rfl) ?_; refine sA [] rfl ?_; refine ev_loadB rfl rfl tabOk rfl rfl ‹_› (by rfl) ?_; refine sA [] rfl ?_; refine ev_loadB rfl rfl tabOk rfl rfl ‹_› (by rfl) ?_
  refine ev_build rfl rfl (v := shpV s) rfl (fun w => by kernel_rfl) ?_
  refine ev_storeAgg tabOk rfl rfl rfl rfl rfl rfl hC rfl (fun w3 hC3 hf3 => ?_)
  have hF3 : Fr no w w3 := (hf1.tr hf2).trans hf3 fun z hz e => by have : z = c := e; have := hf1.size; omega
  refine sA [] rfl ?_
  exact retG tabOk (.inr rfl) rfl [shpV s] ⟨⟨_, rfl, .inl ⟨rfl, _, rfl, rfl, Cs.of_blk hC3⟩⟩, trivial⟩ ⟨rfl, hF3⟩
def tinyS : Shp := ⟨3, 4, 2, 1, 1, 2⟩
theorem lTiny (w : World) : CallsF Tryd.prog 37 [] w fun r w' => r = shpV tinyS ∧ Fr no w w' := by
  refine callsF Tryd.func37 rfl rfl (by decide) rfl ?_
  refine sA [] rfl ?_
  refine ev_alloc rfl rfl inf23 (fun c w2 hc hC hf2 => ?_)
  refine sA [] rfl ?_
  refine ev_build rfl rfl (v := shpV tinyS) rfl (fun w => by kernel_rfl) ?_
  refine ev_storeAgg tabOk rfl rfl rfl rfl rfl rfl hC rfl (fun w3 hC3 hf3 => ?_)
  have hF3 : Fr no w w3 := hf2.trans hf3 fun z hz e => by have : z = c := e; omega
  refine sA [] rfl ?_
  exact retG tabOk (.inr rfl) rfl [shpV tinyS] ⟨⟨_, rfl, .inl ⟨rfl, _, rfl, rfl, Cs.of_blk hC3⟩⟩, trivial⟩ ⟨rfl, hF3⟩
end Go.Wk.YtfgllkflnkolhaaDoor
namespace Go.Wk.YtfgllkflnkolhaaDoor
open Go Go.Wk Go.Proofs

/-- a row of 8-bit numbers, where it lies -/
structure Rw where
  A : Option Addr
  c : Nat
  xs : List Int8
abbrev Rw.v (r : Rw) : Value := .slice r.A r.xs.length r.c
abbrev Rw.At (w : World) (r : Rw) : Prop := Cs w r.A (r.xs.map i8v)
/-- a block of a model -/
structure Bk (ρ : Type) where
  g1 : ρ
  q : ρ
  k : ρ
  v : ρ
  o : ρ
  g2 : ρ
  qs : Int
  ks : Int
  vs : Int
  os : Int
  ss : Int
  ga : ρ
  up : ρ
  dn : ρ
  gas : Int
  ups : Int
  dns : Int
def Bk.map {ρ σ : Type} (f : ρ → σ) (b : Bk ρ) : Bk σ := ⟨f b.g1, f b.q, f b.k, f b.v, f b.o, f b.g2, b.qs, b.ks, b.vs, b.os, b.ss, f b.ga, f b.up, f b.dn, b.gas, b.ups, b.dns⟩
abbrev Bk.rows {ρ : Type} (b : Bk ρ) : List ρ := [b.g1, b.g2, b.q, b.k, b.v, b.o, b.ga, b.up, b.dn]
abbrev bkC (b : Bk Rw) : List Value := [b.g1.v, b.q.v, b.k.v, b.v.v, b.o.v, b.g2.v, i64 b.qs, i64 b.ks, i64 b.vs, i64 b.os, i64 b.ss, b.ga.v, b.up.v, b.dn.v, i64 b.gas, i64 b.ups, i64 b.dns]
abbrev bkV (b : Bk Rw) : Value := .agg ⟨bkC b⟩
def Bk.At (w : World) (b : Bk Rw) : Prop := ∀ r ∈ b.rows, r.At w
theorem Bk.At.fr0 {w w' : World} {b : Bk Rw} (h : b.At w) (hf : Fr no w w') : b.At w' := fun r hr => (h r hr).fr0 hf
abbrev pBk (b : Bk Rw) : Bk (List Int8) := b.map Rw.xs
/-- a model, where its rows lie -/
structure LM where
  s : Shp
  tA : Option Addr
  tc : Nat
  mA : Option Addr
  mc : Nat
  V : VV
  e : Rw
  es : Int
  cos : Rw
  sin : Rw
  bA : Option Addr
  bc : Nat
  bs : List (Bk Rw)
  bend : Rw
  gain : Rw
  un : Rw
  ls : Int
abbrev lmC (m : LM) : List Value := [i64 m.s.voc, i64 m.s.ctx, i64 m.s.dim, i64 m.s.hds, i64 m.s.lay, i64 m.s.hid, .slice m.tA m.V.texts.length m.tc, .slice m.mA m.V.merges.length m.mc, m.e.v, i64 m.es, m.cos.v, m.sin.v, .slice m.bA m.bs.length m.bc, m.bend.v, m.gain.v, m.un.v, i64 m.ls]
abbrev lmV (m : LM) : Value := .agg ⟨lmC m⟩
abbrev LM.rows (m : LM) : List Rw := [m.e, m.cos, m.sin, m.bend, m.gain, m.un]
/-- all rows, as they are made -/
abbrev LM.all (m : LM) : List Rw := [m.gain, m.cos, m.sin, m.bend, m.e] ++ m.bs.flatMap Bk.rows ++ [m.un]
structure LM.At (w : World) (m : LM) : Prop where
  voc : Vo w m.tA m.mA m.V
  rows : ∀ r ∈ m.rows, r.At w
  blk : Cs w m.bA (m.bs.flatMap bkC)
  bs : ∀ b ∈ m.bs, b.At w
theorem LM.At.fr0 {w w' : World} {m : LM} (h : m.At w) (hf : Fr no w w') : m.At w' := ⟨h.voc.fr0 hf, fun r hr => (h.rows r hr).fr0 hf, h.blk.fr0 hf, fun b hb => (h.bs b hb).fr0 hf⟩
/-- a model alone -/
structure Md where
  s : Shp
  V : VV
  e : List Int8
  es : Int
  cos : List Int8
  sin : List Int8
  bs : List (Bk (List Int8))
  bend : List Int8
  gain : List Int8
  un : List Int8
  ls : Int
def LM.p (m : LM) : Md := ⟨m.s, m.V, m.e.xs, m.es, m.cos.xs, m.sin.xs, m.bs.map pBk, m.bend.xs, m.gain.xs, m.un.xs, m.ls⟩

theorem flat_len {α : Type} {f : α → List Value} {k : Nat} (hf : ∀ x, (f x).length = k) : ∀ l : List α, (l.flatMap f).length = l.length * k
  | [] => by simp
  | x :: l => by rw [List.flatMap_cons, List.length_append, hf, flat_len hf l, List.length_cons, Nat.succ_mul]; omega
theorem flat_at {α : Type} {f : α → List Value} {k : Nat} (hf : ∀ x, (f x).length = k) : ∀ {l : List α} {i j : Nat} {x : α} {u : Value}, l[i]? = some x → (f x)[j]? = some u → (l.flatMap f)[i * k + j]? = some u
  | [], i, j, x, u, h, _ => by simp at h
  | y :: l, 0, j, x, u, h, hj => by
    simp only [List.getElem?_cons_zero, Option.some.injEq] at h
    subst h
    rw [List.flatMap_cons, Nat.zero_mul, Nat.zero_add, List.getElem?_append_left (List.getElem?_eq_some_iff.1 hj).1]; exact hj
  | y :: l, i + 1, j, x, u, h, hj => by
    have ih := flat_at hf (l := l) (i := i) (by simpa using h) hj
    rw [List.flatMap_cons, List.getElem?_append_right (by rw [hf, Nat.succ_mul]; omega), hf, show (i + 1) * k + j - k = i * k + j by rw [Nat.succ_mul]; omega]
    exact ih
theorem bkC_len (b : Bk Rw) : (bkC b).length = 17 := rfl
/-- a block at its place -/
theorem blk_at {w : World} {A : Option Addr} {l : List (Bk Rw)} (h : Cs w A (l.flatMap bkC)) {i : Nat} (hi : i < l.length) : ∃ g o, A = some ⟨g, o, none⟩ ∧ Cs w (some ⟨g, o + (i : Int).toNat * 17, none⟩) (bkC l[i]) := by
  have hx : l[i]? = some l[i] := List.getElem?_eq_getElem hi
  obtain ⟨g, o, rfl, _⟩ := h (i * 17 + 0) _ (flat_at bkC_len hx (j := 0) rfl)
  exact ⟨g, o, rfl, by rw [Int.toNat_natCast]; exact h.part (i * 17) fun j u hj => flat_at bkC_len hx hj⟩

section
variable {P : Program} {fn : Func} {R : Ending → World → Prop} {n : Nat} {w : World}
/-- a store of several cells into a part of a block -/
theorem ev_storePart {k : List It} {env : Env} {L l : List Oper} {t : TypeId} {x y : Operand} {ty : TypeId} {ps : String} {af : Array Edge} {g : Option (Nat × Bool)} {tab : Tab} {b o : Nat} {vs cs : List Value} {e : TypeId}
    (hT : TabOk P tab) (hg : guardOf L env g = some true) (hx : ev env x = some (.pointer (some ⟨b, o, none⟩))) (hy : ev env y = some (.agg ⟨vs⟩)) (hag : aggT (tyAt tab t) = some true) (hs : szAt tab t = vs.length) (hv : allOne vs = true)
    (hb : Blk w b cs e) (hl : o + vs.length ≤ cs.length)
    (hk : ∀ w', Blk w' b (cs.take o ++ vs ++ cs.drop (o + vs.length)) e → Fr (fun c => c = b) w w' → H P fn R n (.ops L l :: k) .normal env w') :
    H P fn R n (.ops L (⟨none, .store t x y, ty, ps, af, g⟩ :: l) :: k) .normal env w := by
  have hst := run_storeCells_at P b o e vs 0 ⟨cs⟩ w hb (by simpa using hl) (allOne_ok hv)
  refine ev_do hg (w.setRow b (((⟨cs⟩ : Array Value).toList.take (o + 0) ++ vs ++ (⟨cs⟩ : Array Value).toList.drop (o + 0 + vs.length)).toArray)) (fun a hA => by
    simp only [execOp, hA.ev hx, hA.ev hy]
    refine run_bind (a := ()) ?_
    unfold Instr.storeAt
    show Sem.run P ((Sem.pure _).bind _) w = _
    simp only [Sem.bind, storeVar]
    refine (run_bind (run_sizeOf (ty_size hT hag hs))).trans ?_
    simp only [Value.cells, List.size_toArray, ne_eq, not_true_eq_false, if_false]
    exact hst) (hk _ ?_ ?_)
  · have := setRow_heap w b ⟨cs⟩ (((⟨cs⟩ : Array Value).toList.take (o + 0) ++ vs ++ (⟨cs⟩ : Array Value).toList.drop (o + 0 + vs.length)).toArray) e _ hb
    unfold Blk
    rw [this]
    simp
  · exact ⟨rfl, rfl, rfl, by simp, fun c hc hn => setRow_other w b c _ (fun e => hn e)⟩
end
end Go.Wk.YtfgllkflnkolhaaDoor
namespace Go.Wk.YtfgllkflnkolhaaDoor
open Go Go.Wk Go.Proofs

/-- a row of one's own, in a new block -/
def OR (w0 w : World) (r : Rw) : Prop := Own w 56 1 r.v r.xs.length (r.xs.map i8v) ∧ ∀ g, r.v.ownBlock = some g → w0.heap.size ≤ g
theorem OR.fr {S : Nat → Prop} {w0 w w' : World} {r : Rw} (h : OR w0 w r) (hf : Fr S w w') (hn : ∀ g, r.v.ownBlock = some g → ¬ S g) : OR w0 w' r := ⟨h.1.fr hf hn, h.2⟩
theorem OR.fr0 {w0 w w' : World} {r : Rw} (h : OR w0 w r) (hf : Fr no w w') : OR w0 w' r := h.fr hf fun _ _ => id
theorem OR.lt {w0 w : World} {r : Rw} (h : OR w0 w r) {g : Nat} (hg : r.v.ownBlock = some g) : g < w.heap.size := h.1.lt hg
theorem OR.At {w0 w : World} {r : Rw} (h : OR w0 w r) : r.At w := by
  obtain ⟨A, c, e, h1, _⟩ := h.1.slice
  have e1 : r.A = A := by have : r.v = .slice A r.xs.length c := e; injection this
  show Cs w r.A _
  rw [e1]; exact h1
abbrev apR (r r' : Rw) : Prop := ∀ g, r.v.ownBlock = some g → r'.v.ownBlock ≠ some g
/-- the row of a whole block -/
abbrev rowB (q : Nat) (xs : List Int8) : Rw := ⟨some ⟨q, 0, none⟩, xs.length, xs⟩
theorem OR.of {w0 w : World} {q : Nat} {xs : List Int8} (h : R8 w q xs) (hq : w0.heap.size ≤ q) (hl : xs.length ≤ 1000000000) : OR w0 w (rowB q xs) :=
  ⟨own_of_blk h (by rw [List.length_map, Nat.mul_one]) (Nat.le_trans hl (by omega)), fun g hg => by cases hg; exact hq⟩
theorem OR.ofN {w0 w1 w : World} {v : Value} {xs : List Int8} (h : N8 w1 w v xs) (hs : w0.heap.size ≤ w1.heap.size) : ∃ r : Rw, v = r.v ∧ r.xs = xs ∧ OR w0 w r ∧ ∀ g, r.v.ownBlock = some g → w1.heap.size ≤ g := by
  obtain ⟨A, c, e, _, _⟩ := h.1.slice
  subst e
  exact ⟨⟨A, c, xs⟩, rfl, rfl, ⟨h.1, fun g hg => Nat.le_trans hs (h.2.1 g hg)⟩, h.2.1⟩
/-- a model that is being made: its block, its generator, its rows; O: other blocks -/
structure SP (T : TypeId) (w0 w : World) (b x : Nat) (cells : List Value) (st : Nat) (R : List Rw) (O : Nat → Prop) : Prop where
  blk : Blk w b cells T
  mkr : Mk w x st
  rows : ∀ r ∈ R, OR w0 w r ∧ r.v.ownBlock ≠ some b ∧ r.v.ownBlock ≠ some x ∧ ∀ g, r.v.ownBlock = some g → ¬ O g
  ap : R.Pairwise apR
  fr : Fr no w0 w
  geb : w0.heap.size ≤ b
  gex : w0.heap.size ≤ x
  ne : b ≠ x
  oth : ∀ c, O c → c < w.heap.size ∧ c ≠ b ∧ c ≠ x
section
variable {T : TypeId} {w0 w w' : World} {b x : Nat} {cells cells' : List Value} {st st' : Nat} {R : List Rw} {O : Nat → Prop}
theorem SP.fr0 (h : SP T w0 w b x cells st R O) (hf : Fr no w w') : SP T w0 w' b x cells st R O :=
  ⟨h.blk.fr0 hf, h.mkr.fr0 hf, fun r hr => have z := h.rows r hr; ⟨z.1.fr0 hf, z.2⟩, h.ap, h.fr.tr hf, h.geb, h.gex, h.ne, fun c hc => have z := h.oth c hc; ⟨Nat.lt_of_lt_of_le z.1 hf.size, z.2⟩⟩
theorem SP.set (h : SP T w0 w b x cells st R O) (hB : Blk w' b cells' T) (hf : Fr (fun c => c = b) w w') : SP T w0 w' b x cells' st R O :=
  ⟨hB, h.mkr.fr hf (fun e => h.ne e.symm), fun r hr => have z := h.rows r hr; ⟨z.1.fr hf (fun g hg e => z.2.1 (by rw [hg, e])), z.2⟩, h.ap, h.fr.trans hf fun c hc e => by have : c = b := e; have := h.geb; omega, h.geb, h.gex, h.ne, fun c hc => have z := h.oth c hc; ⟨Nat.lt_of_lt_of_le z.1 hf.size, z.2⟩⟩
/-- another block is written -/
theorem SP.other (h : SP T w0 w b x cells st R O) {p : Nat} (hp : O p) (hp0 : w0.heap.size ≤ p) (hf : Fr (fun c => c = p) w w') : SP T w0 w' b x cells st R O :=
  have z := h.oth p hp
  ⟨h.blk.fr hf (fun e => z.2.1 e.symm), h.mkr.fr hf (fun e => z.2.2 e.symm), fun r hr => have y := h.rows r hr; ⟨y.1.fr hf (fun g hg e => y.2.2.2 g hg (by have : g = p := e; rw [this]; exact hp)), y.2⟩, h.ap, h.fr.trans hf fun c hc e => by have : c = p := e; omega, h.geb, h.gex, h.ne, fun c hc => have z := h.oth c hc; ⟨Nat.lt_of_lt_of_le z.1 hf.size, z.2⟩⟩
/-- other blocks besides: new ones -/
theorem SP.more (h : SP T w0 w b x cells st R O) {O' : Nat → Prop} (hO : ∀ c, O' c → O c ∨ (c < w'.heap.size ∧ w.heap.size ≤ c)) (hf : Fr no w w') : SP T w0 w' b x cells st R O' := by
  have h' := h.fr0 hf
  refine ⟨h'.blk, h'.mkr, fun r hr => have z := h'.rows r hr; ⟨z.1, z.2.1, z.2.2.1, fun g hg e => ?_⟩, h'.ap, h'.fr, h.geb, h.gex, h.ne, fun c hc => ?_⟩
  · rcases hO g e with y | y
    · exact z.2.2.2 g hg y
    · have := (h.rows r hr).1.lt hg; omega
  · rcases hO c hc with y | y
    · exact h'.oth c y
    · have h1 := h.blk.lt
      have h2 := h.mkr.lt
      exact ⟨y.1, by omega, by omega⟩
/-- a new row -/
theorem SP.add (h : SP T w0 w b x cells st R O) {r : Rw} (hr : OR w0 w' r) (hn : ∀ g, r.v.ownBlock = some g → w.heap.size ≤ g) (hf : Fr no w w') : SP T w0 w' b x cells st (R ++ [r]) O := by
  have h' := h.fr0 hf
  have hb := h.blk.lt
  have hx := h.mkr.lt
  refine ⟨h'.blk, h'.mkr, fun q hq => ?_, List.pairwise_append.2 ⟨h.ap, by simp, fun q hq q' hq' g hg e => ?_⟩, h'.fr, h.geb, h.gex, h.ne, h'.oth⟩
  · rcases List.mem_append.1 hq with hq | hq
    · exact h'.rows q hq
    · obtain rfl : q = r := by simpa using hq
      exact ⟨hr, fun e => by have := hn _ e; omega, fun e => by have := hn _ e; omega, fun g hg e => by have := hn _ hg; have := (h.oth g e).1; omega⟩
  · obtain rfl : q' = r := by simpa using hq'
    have := hn _ e
    have := (h.rows q hq).1.lt hg
    omega
/-- new rows, several at once -/
theorem SP.adds (h : SP T w0 w b x cells st R O) {Q : List Rw} (hQ : ∀ r ∈ Q, OR w0 w' r ∧ ∀ g, r.v.ownBlock = some g → w.heap.size ≤ g) (hap : Q.Pairwise apR) (hf : Fr no w w') : SP T w0 w' b x cells st (R ++ Q) O := by
  have h' := h.fr0 hf
  have hb := h.blk.lt
  have hx := h.mkr.lt
  refine ⟨h'.blk, h'.mkr, fun q hq => ?_, List.pairwise_append.2 ⟨h.ap, hap, fun q hq q' hq' g hg e => ?_⟩, h'.fr, h.geb, h.gex, h.ne, h'.oth⟩
  · rcases List.mem_append.1 hq with hq | hq
    · exact h'.rows q hq
    · obtain ⟨hr, hn⟩ := hQ q hq
      exact ⟨hr, fun e => by have := hn _ e; omega, fun e => by have := hn _ e; omega, fun g hg e => by have := hn _ hg; have := (h.oth g e).1; omega⟩
  · have := (hQ q' hq').2 _ e
    have := (h.rows q hq).1.lt hg
    omega
theorem SP.addB (h : SP T w0 w b x cells st R O) {q : Nat} {xs : List Int8} (hR : R8 w' q xs) (hq : w.heap.size ≤ q) (hf : Fr no w w') (hl : xs.length ≤ 1000000000) : SP T w0 w' b x cells st (R ++ [rowB q xs]) O :=
  h.adds (Q := [rowB q xs]) (fun r hr => by
    obtain rfl : r = rowB q xs := by simpa using hr
    exact ⟨OR.of hR (Nat.le_trans h.fr.size hq) hl, fun g hg => by
      have e : some q = some g := hg
      cases e; exact hq⟩) (by simp) hf
theorem SP.nil (h : SP T w0 w b x cells st R O) : SP T w0 w b x cells st (R ++ []) O := by rw [List.append_nil]; exact h
theorem gain_len (n : Nat) : (gainF n).length = n := by simp [gainF]
/-- another row grows -/
theorem SP.grow (h : SP T w0 w b x cells st R O) {bv bv' : Value} {O' : Nat → Prop} (hO : ∀ c, bv.ownBlock = some c → O c ∧ w0.heap.size ≤ c) (hf : Fr (fun c => bv.ownBlock = some c) w w') (hn : NB w bv bv') (hlt : ∀ c, bv'.ownBlock = some c → c < w'.heap.size)
    (hO' : ∀ c, O' c → O c ∨ bv'.ownBlock = some c) : SP T w0 w' b x cells st R O' := by
  have hb := h.blk.lt
  have hx := h.mkr.lt
  refine ⟨h.blk.fr hf (fun e => (h.oth b (hO b e).1).2.1 rfl), h.mkr.fr hf (fun e => (h.oth x (hO x e).1).2.2 rfl), fun r hr => have y := h.rows r hr; ⟨y.1.fr hf (fun g hg e => y.2.2.2 g hg (hO g e).1), y.2.1, y.2.2.1, fun g hg e => ?_⟩, h.ap, h.fr.trans hf fun c hc e => by have := (hO c e).2; omega, h.geb, h.gex, h.ne, fun c hc => ?_⟩
  · rcases hO' g e with z | z
    · exact y.2.2.2 g hg z
    · rcases hn g z with z | z
      · exact y.2.2.2 g hg (hO g z).1
      · have := y.1.lt hg; omega
  · rcases hO' c hc with z | z
    · have z := h.oth c z
      exact ⟨Nat.lt_of_lt_of_le z.1 hf.size, z.2⟩
    · refine ⟨hlt c z, ?_⟩
      rcases hn c z with z | z
      · exact (h.oth c (hO c z).1).2
      · exact ⟨by omega, by omega⟩
/-- the generator's next row -/
theorem SP.row (h : SP T w0 w b x cells st R O) {q : Nat} {xs : List Int8} (hR : R8 w' q xs) (hq : w.heap.size ≤ q) (hm : Mk w' x st') (hf : Fr (fun c => c = x) w w') (hl : xs.length ≤ 1000000000) : SP T w0 w' b x cells st' (R ++ [rowB q xs]) O := by
  have hb := h.blk.lt
  have hx := h.mkr.lt
  refine ⟨h.blk.fr hf h.ne, hm, fun r hr => ?_, List.pairwise_append.2 ⟨h.ap, by simp, fun r hr q' hq' g hg e => ?_⟩, h.fr.trans hf fun c hc e => by have : c = x := e; have := h.gex; omega, h.geb, h.gex, h.ne, fun c hc => have z := h.oth c hc; ⟨Nat.lt_of_lt_of_le z.1 hf.size, z.2⟩⟩
  · rcases List.mem_append.1 hr with hr | hr
    · have z := h.rows r hr
      exact ⟨z.1.fr hf (fun g hg e => z.2.2.1 (by rw [hg, e])), z.2⟩
    · obtain rfl : r = rowB q xs := by simpa using hr
      have hs := h.fr.size
      refine ⟨OR.of hR (by omega) hl, fun e => ?_, fun e => ?_, fun g hg e => ?_⟩
      · have e : some q = some b := e
        cases e; omega
      · have e : some q = some x := e
        cases e; omega
      · have e2 : some q = some g := hg
        cases e2
        have := (h.oth q e).1; omega
  · obtain rfl : q' = rowB q xs := by simpa using hq'
    have e2 : some q = some g := e
    cases e2
    have := (h.rows r hr).1.lt hg
    omega
end

/-! ### what Sample makes -/
def txtF (i : Nat) : List UInt8 := if i = 0 then [] else if i < 256 then [UInt8.ofNat ((96 + i) % 256)] else [97, UInt8.ofNat ((97 + i - 256) % 256)]
def txts (n : Nat) : List (List UInt8) := (List.range n).map txtF
def mrgs : Nat → List Mrg
  | 0 => []
  | n + 1 => mrgs n ++ (if 256 ≤ n ∧ n ≤ 510 then [(1, (n : Int) - 255, (n : Int))] else [])
theorem txts_len (n : Nat) : (txts n).length = n := by simp [txts]
theorem txts_succ (n : Nat) : txts (n + 1) = txts n ++ [txtF n] := by unfold txts; rw [List.range_succ, List.map_append]; rfl
theorem mrgs_len : ∀ n, (mrgs n).length ≤ n
  | 0 => Nat.le_refl _
  | n + 1 => by
    have := mrgs_len n
    unfold mrgs
    rw [List.length_append]
    split
    · simp only [List.length_cons, List.length_nil]; omega
    · simp only [List.length_nil]; omega
def seed64 (n : Int) : Nat := (n % 18446744073709551616).toNat
/-- a block off the generator -/
def blkF (d h st : Nat) : Bk (List Int8) :=
  ⟨gainF d, rowQ (d * d) st, rowQ (d * d) (lcgN (d * d) st), rowQ (d * d) (lcgN (d * d) (lcgN (d * d) st)), rowQ (d * d) (lcgN (d * d) (lcgN (d * d) (lcgN (d * d) st))), gainF d,
    7 + levQ d, 7 + levQ d, 7 + levQ d, 4 + levQ d, 3,
    rowQ (h * d) (lcgN (d * d) (lcgN (d * d) (lcgN (d * d) (lcgN (d * d) st)))), rowQ (h * d) (lcgN (h * d) (lcgN (d * d) (lcgN (d * d) (lcgN (d * d) (lcgN (d * d) st))))), rowQ (d * h) (lcgN (h * d) (lcgN (h * d) (lcgN (d * d) (lcgN (d * d) (lcgN (d * d) (lcgN (d * d) st)))))),
    7 + levQ d, 7 + levQ d, 4 + levQ h⟩
def blkS (d h st : Nat) : Nat := lcgN (d * h) (lcgN (h * d) (lcgN (h * d) (lcgN (d * d) (lcgN (d * d) (lcgN (d * d) (lcgN (d * d) st))))))
def layS (d h : Nat) : Nat → Nat → Nat
  | 0, st => st
  | l + 1, st => blkS d h (layS d h l st)
def layF (d h l st : Nat) : List (Bk (List Int8)) := (List.range l).map fun j => blkF d h (layS d h j st)
theorem layF_succ (d h l st : Nat) : layF d h (l + 1) st = layF d h l st ++ [blkF d h (layS d h l st)] := by unfold layF; rw [List.range_succ, List.map_append]; rfl
def sampleP (s : Shp) (seed : Int) : Md :=
  let d := s.dim.toNat
  let h := s.hid.toNat
  let n := s.voc.toNat
  let st := lcgN (n * d) (seed64 seed)
  ⟨s, ⟨txts n, mrgs n⟩, rowQ (n * d) (seed64 seed), 2, cosF s.ctx.toNat (halfS s).toNat, sinF s.ctx.toNat (halfS s).toNat, layF d h s.lay.toNat st, BEND, gainF d, rowQ (n * d) (layS d h s.lay.toNat st), 4 + levQ d⟩
theorem seed64_lt (n : Int) : seed64 n < 18446744073709551616 := by unfold seed64; omega
theorem layS_lt {d h st : Nat} (hs : st < 18446744073709551616) : ∀ l, layS d h l st < 18446744073709551616
  | 0 => hs
  | l + 1 => lcgN_lt (lcgN_lt (lcgN_lt (lcgN_lt (lcgN_lt (lcgN_lt (lcgN_lt (layS_lt hs l) _) _) _) _) _) _) _
/-- a model of one's own: TM, TB: what its merges and blocks are -/
structure OwnM (TM TB : TypeId) (w0 w : World) (m : LM) : Prop where
  rows : ∀ r ∈ m.all, OR w0 w r
  ap : m.all.Pairwise apR
  txt : Own w 9 1 (.slice m.tA m.V.texts.length m.tc) m.V.texts.length (m.V.texts.map sv)
  mrg : Own w TM 3 (.slice m.mA m.V.merges.length m.mc) m.V.merges.length (mcs m.V.merges)
  blk : Own w TB 17 (.slice m.bA m.bs.length m.bc) m.bs.length (m.bs.flatMap bkC)
  ge : ∀ g, (Value.slice m.tA m.V.texts.length m.tc).ownBlock = some g ∨ (Value.slice m.mA m.V.merges.length m.mc).ownBlock = some g ∨ (Value.slice m.bA m.bs.length m.bc).ownBlock = some g → w0.heap.size ≤ g ∧ ∀ r ∈ m.all, r.v.ownBlock ≠ some g
  tm : ∀ g, (Value.slice m.tA m.V.texts.length m.tc).ownBlock = some g → (Value.slice m.mA m.V.merges.length m.mc).ownBlock ≠ some g ∧ (Value.slice m.bA m.bs.length m.bc).ownBlock ≠ some g
  mb : ∀ g, (Value.slice m.mA m.V.merges.length m.mc).ownBlock = some g → (Value.slice m.bA m.bs.length m.bc).ownBlock ≠ some g
  fr : Fr no w0 w
theorem own_cs {w : World} {e sz n c : Nat} {A : Option Addr} {xs : List Value} (h : Own w e sz (.slice A n c) n xs) : Cs w A xs := by
  obtain ⟨A', c', e, h1, _⟩ := h.slice
  injection e with e1 e2 e3
  rw [e1]; exact h1
theorem OwnM.At {TM TB : TypeId} {w0 w : World} {m : LM} (h : OwnM TM TB w0 w m) : m.At w :=
  ⟨⟨own_cs h.txt, own_cs h.mrg⟩, fun r hr => (h.rows r (by
    simp only [List.mem_cons, List.not_mem_nil, or_false] at hr
    simp only [LM.all, List.mem_append, List.mem_cons, List.not_mem_nil, or_false]
    rcases hr with z | z | z | z | z | z <;> simp [z])).At, own_cs h.blk, fun b hb r hr => (h.rows r (List.mem_append.2 (.inl (List.mem_append.2 (.inr (List.mem_flatMap.2 ⟨b, hb, hr⟩)))))).At⟩
theorem OwnM.fr0 {TM TB : TypeId} {w0 w w' : World} {m : LM} (h : OwnM TM TB w0 w m) (hf : Fr no w w') : OwnM TM TB w0 w' m :=
  ⟨fun r hr => (h.rows r hr).fr0 hf, h.ap, h.txt.fr0 hf, h.mrg.fr0 hf, h.blk.fr0 hf, h.ge, h.tm, h.mb, h.fr.tr hf⟩
end Go.Wk.YtfgllkflnkolhaaDoor
