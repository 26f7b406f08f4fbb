/-
  Chapter 16: numbers one by one; gains; levels.
-/
import Derived.Test.YtfgllkflnkolhaaDoorShD
set_option linter.unusedVariables false
namespace Go.Wk.YtfgllkflnkolhaaDoor
open Go Go.Wk Go.Proofs

/-! ### the generator -/
def lcg (s : Nat) : Nat := (s * 6364136223846793005 + 1442695040888963407) % 18446744073709551616
def lcgN : Nat → Nat → Nat
  | 0, s => s
  | n + 1, s => lcg (lcgN n s)
def rowQ (n s : Nat) : List Int8 := (List.range n).map fun i => Int8.ofInt (s8 (lcgN (i + 1) s / 72057594037927936))
theorem rowQ_len (n s : Nat) : (rowQ n s).length = n := by simp [rowQ]
theorem rowQ_succ (n s : Nat) : rowQ (n + 1) s = rowQ n s ++ [Int8.ofInt (s8 (lcgN (n + 1) s / 72057594037927936))] := by unfold rowQ; rw [List.range_succ, List.map_append]; rfl
theorem lcg_lt (s : Nat) : lcg s < 18446744073709551616 := Nat.mod_lt _ (by omega)
theorem lcgN_lt {s : Nat} (h : s < 18446744073709551616) : ∀ n, lcgN n s < 18446744073709551616
  | 0 => h
  | n + 1 => lcg_lt _
theorem wrap_u64 (x : Int) : IntKind.u64.wrap x = x % 18446744073709551616 := by simp [IntKind.wrap, IntKind.signed, IntKind.bits]
theorem lcg_eq (s : Nat) : IntKind.u64.wrap (IntKind.u64.wrap ((s : Int) * 6364136223846793005) + 1442695040888963407) = (lcg s : Nat) := by
  rw [wrap_u64, wrap_u64]; unfold lcg; omega
theorem s8_v {n : Nat} (h : n < 256) : Value.int .i8 (s8 n) = i8v (Int8.ofInt (s8 n)) := i8_of (s8_bd h)
/-- a maker's cell -/
abbrev Mk (w : World) (p s : Nat) : Prop := Blk w p [.int .u64 s] 110
set_option maxHeartbeats 2000000 in
theorem wRow (p s n : Nat) (w : World) (h : Mk w p s) (hs : s < 18446744073709551616) (hn : n ≤ 1000000) :
    CallsF Tryd.prog 50 [.pointer (some ⟨p, 0, none⟩), i64 n] w fun r w' => ∃ q, r = .slice (some ⟨q, 0, none⟩) n n ∧ R8 w' q (rowQ n s) ∧ w.heap.size ≤ q ∧ Mk w' p (lcgN n s) ∧ Fr (fun c => c = p) w w' := by
  have hpl := h.lt
  refine callsF Tryd.func50 rfl rfl (by decide) rfl ?_
  refine sA [] rfl ?_
  refine ev_make tabOk rfl rfl rfl inf56 rfl rfl (by omega) (by omega) (by omega) (fun q w1 hq hR hf1 => ?_)
  have hR : R8 w1 q (List.replicate n 0) := made8 (n := n) rfl hR
  have h1 := h.fr0 hf1
  rw [show ((n : Nat) : Int).toNat = n from rfl]
  have hpq : p ≠ q := by omega
  clear h
  refine sA [] rfl ?_
  refine ev_loop (α := Nat) (fun y => [(0, .pointer (some ⟨p, 0, none⟩)), (5, .slice (some ⟨q, 0, none⟩) n n), (10, i64 n), (11, i64 y)]) (fun y w' => y ≤ n ∧ R8 w' q (rowQ y s ++ List.replicate (n - y) 0) ∧ Mk w' p (lcgN y s) ∧ Fr (fun c => c = p) w w') (fun y => n - y) 0 ⟨rfl, rfl, rfl, rfl, trivial⟩ ⟨Nat.zero_le _, hR, h1, hf1.mono fun _ _ z => z.elim⟩ ?_
  clear hR h1 hf1
  rintro i w2 ⟨hi, hR, h2, hF⟩
  have hbl := rowQ_len i s
  have hst := lcgN_lt hs i
  have hst1 := lcgN_lt hs (i + 1)
  refine sC [] rfl ?_; refine sD [] rfl ?_
  refine ev_condD rfl (fun c => ?_) (fun c => ?_)
  · have hi : i < n := by omega
    refine sA [] rfl ?_; refine ev_loadB rfl rfl tabOk rfl rfl ‹_› (by rfl) ?_
    refine ev_arithW rfl rfl rfl rfl rfl ?_
    refine ev_arithW rfl rfl rfl rfl rfl ?_
    rw [lcg_eq, show lcg (lcgN i s) = lcgN (i + 1) s from rfl]
    refine sA [] rfl ?_
    refine ev_store tabOk rfl rfl rfl rfl rfl rfl h2 rfl (fun w3 h3 hf3 => ?_)
    have h3 : Mk w3 p (lcgN (i + 1) s) := h3
    have hR3 : R8 w3 q _ := hR.fr hf3 (fun e => hpq e.symm)
    have hF3 := hF.trans hf3 fun _ _ z => z
    clear h2 hR hf3
    refine sA [] rfl ?_; refine ev_loadB rfl rfl tabOk rfl rfl ‹_› (by rfl) ?_; refine sA [] rfl ?_
    rw [show ((lcgN (i + 1) s : Nat) : Int).fdiv (2 ^ 56) = ((lcgN (i + 1) s / 72057594037927936 : Nat) : Int) by rw [Int.fdiv_eq_ediv_of_nonneg _ (by decide)]; omega]
    have hz : lcgN (i + 1) s / 72057594037927936 < 256 := by omega
    obtain ⟨z, hz0⟩ : ∃ z, z = lcgN (i + 1) s / 72057594037927936 := ⟨_, rfl⟩
    rw [← hz0] at hz ⊢
    refine ev_conv rfl rfl tabOk rfl rfl rfl (by simp only [lowK, hiK]; omega) ?_
    refine ev_convW rfl rfl tabOk rfl rfl rfl ?_
    rw [show IntKind.i8.wrap (z : Int) = s8 z from rfl, s8_v hz]
    refine ev_indexAddr (len := n) (i := i) rfl rfl tabOk rfl rfl rfl (by omega) (by omega) ?_
    refine ev_store tabOk rfl rfl rfl rfl rfl rfl hR3 (blt_of (by rw [List.length_map, List.length_append, List.length_replicate]; omega)) (fun w4 hR4 hf4 => ?_)
    rw [show 0 + (i : Int).toNat * 1 = i by omega, R8.set, fill_set hbl hi, hz0, ← rowQ_succ] at hR4
    have h4 : Mk w4 p (lcgN (i + 1) s) := h3.fr hf4 hpq
    have hF4 : Fr (fun c => c = p) w w4 := hF3.trans hf4 fun c hc e => by have : c = q := e; omega
    refine sA [] rfl ?_; refine ev_arith rfl rfl rfl rfl rfl (by simp only [lowK, hiK]; omega) ?_; refine sA [] rfl ?_
    exact ev_next (i + 1) (by omega) ⟨hi, hR4, h4, hF4⟩ ⟨rfl, rfl, rfl, by rw [show ((i + 1 : Nat) : Int) = (i : Int) + 1 by omega]; rfl, trivial⟩
  · obtain rfl : i = n := by omega
    rw [Nat.sub_self, List.replicate_zero, List.append_nil] at hR
    refine sA [] rfl ?_
    exact ret1 (.inr rfl) rfl rfl ⟨q, rfl, hR, hq, h2, hF⟩
set_option maxHeartbeats 2000000 in
theorem refRow (s n : Nat) (w : World) (hs : s < 18446744073709551616) (hn : n ≤ 1000000) :
    CallsF Tryd.prog 45 [.int .u64 s, i64 n] w fun r w' => ∃ v, r = .tuple #[v, .int .u64 (lcgN n s)] ∧ N8 w w' v (rowQ n s) := by
  refine callsF Tryd.func45 rfl rfl (by decide) rfl ?_
  refine sA [] rfl ?_
  refine ev_buildSlice tabOk rfl rfl rfl inf56 rfl rfl rfl (fun _ h => by cases h) rfl (fun b w1 hb hb1 hf1 => ?_)
  have hb1 : R8 w1 b [] := hb1
  have hN1 : N8 w w1 (.slice (some ⟨b, 0, none⟩) 0 0) (rowQ 0 s) := N8.of (xs := []) hb1 hb hf1 (Nat.zero_le _)
  refine sA [] rfl ?_
  refine ev_loop (α := Nat × Value) (fun y => [(0, .int .u64 (lcgN y.1 s)), (1, i64 n), (6, y.2), (7, i64 y.1)]) (fun y w' => y.1 ≤ n ∧ N8 w w' y.2 (rowQ y.1 s)) (fun y => n - y.1) (0, _) ⟨rfl, rfl, rfl, rfl, trivial⟩ ⟨Nat.zero_le _, hN1⟩ ?_
  clear hN1 hb1
  rintro ⟨i, v⟩ w2 ⟨hi, hN⟩
  simp only at hi hN
  have hbl := rowQ_len i s
  have hst := lcgN_lt hs i
  have hst1 := lcgN_lt hs (i + 1)
  refine sC [] rfl ?_; refine sD [] rfl ?_; refine sD [] rfl ?_; refine sD [] rfl ?_
  refine ev_condD rfl (fun c => ?_) (fun c => ?_)
  · have hi : i < n := by omega
    refine sA [] rfl ?_
    refine ev_arithW (a := (lcgN i s : Nat)) rfl rfl rfl rfl rfl ?_
    refine ev_arithW rfl rfl rfl rfl rfl ?_
    rw [lcg_eq, show lcg (lcgN i s) = lcgN (i + 1) s from rfl]
    refine sA [] rfl ?_
    rw [show ((lcgN (i + 1) s : Nat) : Int).fdiv (2 ^ 56) = ((lcgN (i + 1) s / 72057594037927936 : Nat) : Int) by rw [Int.fdiv_eq_ediv_of_nonneg _ (by decide)]; omega]
    have hz : lcgN (i + 1) s / 72057594037927936 < 256 := by omega
    obtain ⟨z, hz0⟩ : ∃ z, z = lcgN (i + 1) s / 72057594037927936 := ⟨_, rfl⟩
    rw [← hz0] at hz ⊢
    have hsz := s8_eq hz
    have hsb := s8_bd hz
    refine ev_conv rfl rfl tabOk rfl rfl rfl (by simp only [lowK, hiK]; omega) ?_; refine sC [] rfl ?_; refine sC [] rfl ?_
    refine ev_cut (α := Unit) (fun y => [(0, .int .u64 (lcgN (i + 1) s)), (1, i64 n), (6, v), (7, i64 i), (8, i64 (s8 z))]) (fun y w' => w' = w2) ?_ ?_
    · refine ev_condD rfl (fun d => ?_) (fun d => ?_)
      · rw [if_pos (by omega)] at hsz
        refine sA [] rfl ?_; refine ev_arith rfl rfl rfl rfl rfl (by simp only [lowK, hiK]; omega) ?_; refine sA [] rfl ?_
        exact ev_out () rfl ⟨rfl, rfl, rfl, rfl, by rw [hsz]; rfl, trivial⟩
      · rw [if_neg (by omega)] at hsz
        refine sA [] rfl ?_
        exact ev_out () rfl ⟨rfl, rfl, rfl, rfl, by rw [hsz]; rfl, trivial⟩
    · rintro ⟨⟩ w3 rfl
      refine sA [] rfl ?_; refine ev_conv rfl rfl tabOk rfl rfl rfl (by simp only [lowK, hiK]; omega) ?_
      rw [s8_v hz]
      refine ev_append1 tabOk rfl rfl (fun _ => rfl) rfl rfl inf56 rfl (by omega) (fun _ => rfl) rfl rfl (by simp [Value.cells]) (by simp [flatV, Value.cells, Value.oneCell']) rfl hN.1 (by omega) (fun v5 w5 g ho5 hf5 hn5 => ?_)
      have hN5 := hN.app (ys := [Int8.ofInt (s8 z)]) ho5 hf5 hn5
      rw [hz0, ← rowQ_succ] at hN5
      refine sA [] rfl ?_; refine ev_arith rfl rfl rfl rfl rfl (by simp only [lowK, hiK]; omega) ?_; refine sA [] rfl ?_
      exact ev_next (i + 1, v5) (by simp only; omega) ⟨hi, hN5⟩ ⟨rfl, rfl, rfl, by rw [show ((i + 1 : Nat) : Int) = (i : Int) + 1 by omega]; rfl, trivial⟩
  · obtain rfl : i = n := by omega
    refine sA [] rfl ?_
    exact ret2 (.inr rfl) rfl rfl rfl ⟨v, rfl, hN⟩

/-! ### levels -/
def levQ (n : Nat) : Nat := if n ≤ 1 then 0 else if n ≤ 4 then 1 else if n ≤ 16 then 2 else if n ≤ 64 then 3 else 4
theorem levQ_le (n : Nat) : levQ n ≤ 4 := by unfold levQ; (repeat' split) <;> omega
theorem lev_lt {s n : Nat} (hs : s ≤ 4) (hn : n ≤ 256) : (4 : Int) ^ s < n ↔ s < levQ n := by
  unfold levQ
  rcases (show s = 0 ∨ s = 1 ∨ s = 2 ∨ s = 3 ∨ s = 4 by omega) with rfl | rfl | rfl | rfl | rfl
  · show (1 : Int) < n ↔ _; (repeat' split) <;> omega
  · show (4 : Int) < n ↔ _; (repeat' split) <;> omega
  · show (16 : Int) < n ↔ _; (repeat' split) <;> omega
  · show (64 : Int) < n ↔ _; (repeat' split) <;> omega
  · show (256 : Int) < n ↔ _; (repeat' split) <;> omega
theorem lev_pow : ∀ s : Fin 5, IntKind.i64.wrap (1 * 2 ^ (2 * ((s.val : Nat) : Int)).toNat) = 4 ^ s.val := by decide
theorem wLevel (n : Nat) (w : World) (hn : n ≤ 256) : CallsF Tryd.prog 47 [i64 n] w fun r w' => r = i64 (levQ n) ∧ w' = w := by
  have hl := levQ_le n
  refine callsF Tryd.func47 rfl rfl (by decide) rfl ?_
  refine sA [] rfl ?_
  refine ev_loop (α := Nat) (fun y => [(0, i64 n), (3, i64 y)]) (fun y w' => y ≤ levQ n ∧ w' = w) (fun y => levQ n - y) 0 ⟨rfl, rfl, trivial⟩ ⟨Nat.zero_le _, rfl⟩ ?_
  rintro s w' ⟨hs, rfl⟩
  have hlt := lev_lt (s := s) (n := n) (by omega) hn
  refine sA [] rfl ?_; refine ev_arith rfl rfl rfl rfl rfl (by simp only [lowK, hiK]; omega) ?_
  refine ev_y rfl rfl (y_shl rfl rfl (by omega) (by show 2 * (s : Int) ≤ ((64 : Nat) : Int); omega)) ?_
  rw [show IntKind.i64.wrap (1 * 2 ^ (2 * (s : Int)).toNat) = 4 ^ s from lev_pow ⟨s, by omega⟩]
  refine sD [] rfl ?_; refine sD [] rfl ?_; refine sD [] rfl ?_
  refine ev_condD rfl (fun c => ?_) (fun c => ?_)
  · have := hlt.1 c
    refine sA [] rfl ?_; refine ev_arith rfl rfl rfl rfl rfl (by simp only [lowK, hiK]; omega) ?_; refine sA [] rfl ?_
    exact ev_next (s + 1) (by omega) ⟨by omega, rfl⟩ ⟨rfl, by rw [show ((s + 1 : Nat) : Int) = (s : Int) + 1 by omega]; rfl, trivial⟩
  · have : s = levQ n := by have : ¬ s < levQ n := fun z => c (hlt.2 z); omega
    refine sA [] rfl ?_
    exact ret1 (.inr rfl) rfl rfl ⟨by rw [← this], rfl⟩
theorem refRoot (n : Nat) (w : World) (hn : n ≤ 256) : CallsF Tryd.prog 41 [i64 n] w fun r w' => r = i64 (levQ n) ∧ w' = w := by
  have hl := levQ_le n
  refine callsF Tryd.func41 rfl rfl (by decide) rfl ?_
  refine sA [] rfl ?_
  refine ev_loop (α := Nat) (fun y => [(0, i64 n), (3, i64 y), (4, i64 (4 ^ y))]) (fun y w' => y ≤ levQ n ∧ w' = w) (fun y => levQ n - y) 0 ⟨rfl, rfl, rfl, trivial⟩ ⟨Nat.zero_le _, rfl⟩ ?_
  rintro s w' ⟨hs, rfl⟩
  have hlt := lev_lt (s := s) (n := n) (by omega) hn
  refine sC [] rfl ?_; refine sD [] rfl ?_; refine sD [] rfl ?_; refine sD [] rfl ?_
  refine ev_condD rfl (fun c => ?_) (fun c => ?_)
  · have := hlt.1 c
    have c : (4 : Int) ^ s < n := c
    have hp : (0 : Int) < 4 ^ s := Int.pow_pos (by omega)
    have e3 : (4 : Int) ^ s * 4 = 4 ^ (s + 1) := (Int.pow_succ 4 s).symm
    refine sA [] rfl ?_; refine ev_arith rfl rfl rfl rfl rfl (by simp only [lowK, hiK]; omega) ?_; refine sA [] rfl ?_; refine ev_arith rfl rfl rfl rfl rfl (by simp only [lowK, hiK]; omega) ?_; refine sA [] rfl ?_
    exact ev_next (s + 1) (by omega) ⟨by omega, rfl⟩ ⟨rfl, by rw [show ((s + 1 : Nat) : Int) = (s : Int) + 1 by omega]; rfl, by rw [← e3]; rfl, trivial⟩
  · have : s = levQ n := by have : ¬ s < levQ n := fun z => c (hlt.2 z); omega
    refine sA [] rfl ?_
    exact ret1 (.inr rfl) rfl rfl ⟨by rw [← this], rfl⟩

/-! ### gains -/
def gainF (n : Nat) : List Int8 := List.replicate n 64
theorem wMul64 (n : Nat) (w : World) (hn : n ≤ 1000000) : CallsF Tryd.prog 102 [.int .u64 1, .int .u64 n] w fun r w' => r = .tuple #[.int .u64 0, .int .u64 n] ∧ w' = w := by
  have ha : ∀ {m : Nat}, m ≤ 1000000 → bits .and .u64 (m : Int) 4294967295 = (m : Int) := fun {m} hm => by
    have h := bits_and64 (a := m) (b := 4294967295) (by omega) (by omega)
    rw [show ((4294967295 : Nat) : Int) = 4294967295 from rfl] at h
    rw [h, show (4294967295 : Nat) = 2 ^ 32 - 1 from rfl, Nat.and_two_pow_sub_one_eq_mod, Nat.mod_eq_of_lt (by omega)]
  have hd : ∀ {m : Nat}, m ≤ 1000000 → ((m : Int)).fdiv (2 ^ 32) = 0 := fun {m} hm => by rw [Int.fdiv_eq_ediv_of_nonneg _ (by decide)]; omega
  have h1 := ha hn
  have h2 := hd hn
  have h3 : (1 * (n : Int)) = (n : Int) := Int.one_mul _
  refine callsF Tryd.func102 rfl rfl (by decide) rfl ?_
  refine sA [] rfl ?_
  rw [h1]
  skip
  rw [h2]
  skip
  rw [show bits .and .u64 1 4294967295 = 1 by decide, show Int.fdiv 1 (2 ^ 32) = 0 by decide]
  refine ev_arith rfl rfl rfl rfl rfl (by simp only [lowK, hiK]; omega) ?_; refine sA [] rfl ?_; refine ev_arith rfl rfl rfl rfl rfl (by simp only [lowK, hiK]; omega) ?_; refine sA [] rfl ?_
  rw [h3]
  refine ev_arith rfl rfl rfl rfl rfl (by simp only [lowK, hiK]; omega) ?_; refine sA [] rfl ?_; refine ev_arith rfl rfl rfl rfl rfl (by simp only [lowK, hiK]; omega) ?_
  rw [h2]
  skip
  rw [show 0 * (n : Int) + 0 = 0 by omega, show bits .and .u64 0 4294967295 = 0 by decide, show Int.fdiv 0 (2 ^ 32) = 0 by decide, show (1 * 0 : Int) = 0 from rfl]
  refine ev_arith rfl rfl rfl rfl rfl (by simp only [lowK, hiK]; omega) ?_; refine sA [] rfl ?_; refine ev_arith rfl rfl rfl rfl rfl (by simp only [lowK, hiK]; omega) ?_; refine sA [] rfl ?_; refine ev_arith rfl rfl rfl rfl rfl (by simp only [lowK, hiK]; omega) ?_; refine sA [] rfl ?_
  rw [show Int.fdiv (0 + 0) (2 ^ 32) = 0 by decide]
  refine ev_arith rfl rfl rfl rfl rfl (by simp only [lowK, hiK]; omega) ?_; refine sA [] rfl ?_; refine ev_arith rfl rfl rfl rfl rfl (by simp only [lowK, hiK]; omega) ?_; refine sA [] rfl ?_
  rw [h3]
  exact ret2 (.inr rfl) rfl rfl rfl ⟨rfl, rfl⟩
theorem wMul (n : Nat) (w : World) (hn : n ≤ 1000000) : CallsF Tryd.prog 82 [.int .u64 1, .int .u64 n] w fun r w' => r = .tuple #[.int .u64 0, .int .u64 n] ∧ w' = w := by
  refine callsF Tryd.func82 rfl rfl (by decide) rfl ?_
  refine sA [] rfl ?_
  refine ev_call rfl rfl rfl (wMul64 n _ hn) (fun r w1 hr => ?_)
  obtain ⟨rfl, rfl⟩ := hr
  refine sA [] rfl ?_
  exact ret2 (.inr rfl) rfl rfl rfl ⟨rfl, rfl⟩
theorem cut8 {i cap g : Nat} (h : i < cap) : cutA 1 i cap (some ⟨g, 0, none⟩) = some ⟨g, i, none⟩ := by
  unfold cutA; rw [if_neg (by omega)]; simp [Addr.add_lit]
theorem gain_fill {k m n : Nat} (hk : k + m ≤ n) : ((gainF k ++ List.replicate (n - k) 0).map i8v).take k ++ (gainF m).map i8v ++ ((gainF k ++ List.replicate (n - k) (0 : Int8)).map i8v).drop (k + ((gainF m).map i8v).length) = (gainF (k + m) ++ List.replicate (n - (k + m)) 0).map i8v := by
  have h1 : (gainF k).length = k := by simp [gainF]
  have h2 : ((gainF m).map i8v).length = m := by simp [gainF]
  rw [h2, ← List.map_take, ← List.map_drop, ← List.map_append, ← List.map_append]
  congr 1
  rw [List.take_append_of_le_length (by omega), List.take_of_length_le (by omega), List.drop_append, h1, List.drop_eq_nil_of_le (by omega), List.nil_append, List.drop_replicate, show k + m - k = m by omega, show n - k - m = n - (k + m) by omega]
  unfold gainF
  rw [List.replicate_append_replicate]
set_option maxHeartbeats 2000000 in
theorem wRepeat (b n : Nat) (w : World) (hB : R8 w b [64]) (hn : 1 ≤ n ∧ n ≤ 1000000) :
    CallsF Tryd.prog 65 [.slice (some ⟨b, 0, none⟩) 1 1, i64 n] w fun r w' => ∃ q, r = .slice (some ⟨q, 0, none⟩) n n ∧ R8 w' q (gainF n) ∧ w.heap.size ≤ q ∧ Fr no w w' := by
  have hbl := hB.lt
  refine callsF Tryd.func65 rfl rfl (by decide) rfl ?_
  refine sA [] rfl ?_; refine ev_conv rfl rfl tabOk rfl rfl rfl (by simp only [lowK, hiK]; omega) ?_; refine sA [] rfl ?_; refine ev_conv rfl rfl tabOk rfl rfl rfl (by simp only [lowK, hiK]; omega) ?_
  rw [show decide ((n : Int) < 0) = false from decide_eq_false (by omega)]
  skip
  refine ev_call rfl rfl rfl (wMul n _ hn.2) (fun r w1 hr => ?_)
  obtain ⟨rfl, rfl⟩ := hr
  refine sC [] rfl ?_; refine sC [] rfl ?_; refine sC [] rfl ?_; refine sC [] rfl ?_
  rw [show decide ((9223372036854775807 : Int) < n) = false from decide_eq_false (by omega)]
  refine sA [] rfl ?_; refine ev_conv rfl rfl tabOk rfl rfl rfl (by simp only [lowK, hiK]; omega) ?_
  refine ev_make tabOk rfl rfl rfl inf56 rfl rfl (by omega) (by omega) (by omega) (fun q w2 hq hR hf2 => ?_)
  have hR : R8 w2 q (gainF 0 ++ List.replicate (n - 0) 0) := made8 (n := n) rfl hR
  rw [show ((n : Nat) : Int).toNat = n from rfl]
  have hB2 : R8 w2 b [64] := hB.fr0 hf2
  have hlen : ∀ k, k ≤ n → ((gainF k ++ List.replicate (n - k) (0 : Int8)).map i8v).length = n := fun k hk => by simp [gainF]; omega
  refine sA [] rfl ?_
  refine ev_copy tabOk rfl rfl rfl rfl rfl inf56 hR (news := (gainF 1).map i8v) (Cs.of_blk hB2) (by show 1 = Nat.min 1 n; simp [Nat.min_def]; omega) (by rw [hlen 0 (by omega)]; show 0 + 1 ≤ n; omega) i8_one (fun w3 hR3 hf3 => ?_)
  have e := gain_fill (k := 0) (m := 1) (n := n) (by omega)
  have hR3 : R8 w3 q (gainF 1 ++ List.replicate (n - 1) 0) := by
    have h : Blk w3 q _ 56 := hR3
    rw [Nat.zero_add] at h e
    rw [e] at h; exact h
  have hF3 : Fr no w1 w3 := hf2.trans hf3 fun z hz e => by have : z = q := e; omega
  clear hR hB hB2 hf2 hf3
  refine sA [] rfl ?_
  refine ev_loop (α := Nat) (fun y => [(7, .slice (some ⟨q, 0, none⟩) n n), (8, i64 y)]) (fun y w' => 1 ≤ y ∧ y ≤ n ∧ R8 w' q (gainF y ++ List.replicate (n - y) 0) ∧ Fr no w1 w') (fun y => n - y) 1 ⟨rfl, rfl, trivial⟩ ⟨Nat.le_refl _, hn.1, hR3, hF3⟩ ?_
  clear hR3 hF3 e
  rintro k w4 ⟨hk0, hk1, hR, hF⟩
  have hgl : (gainF k).length = k := by simp [gainF]
  refine sC [] rfl ?_; refine sC [] rfl ?_
  refine ev_condD rfl (fun c => ?_) (fun c => ?_)
  · have hk : k < n := by omega
    refine sA [] rfl ?_
    refine mix_in mixed (fun w5 hf5 => ?_)
    have hR5 : R8 w5 q _ := hR.fr0 hf5
    refine mA rfl (by kernel_rfl) (by kernel_rfl) ?_
    refine m_slice (A := some ⟨q, 0, none⟩) (len := n) (cap := n) (i := k) (j := n) 3 rfl rfl rfl (by kernel_rfl) (by kernel_rfl) rfl rfl tabOk rfl rfl rfl rfl (by omega) (by omega) (by omega) ?_
    refine m_slice (A := some ⟨q, 0, none⟩) (len := n) (cap := n) (i := 0) (j := k) 6 rfl rfl rfl (by kernel_rfl) (by kernel_rfl) rfl rfl tabOk rfl rfl rfl rfl (by omega) (by omega) (by omega) ?_
    rw [show ((k : Nat) : Int).toNat = k from rfl, show ((n : Nat) : Int).toNat = n from rfl, show (0 : Int).toNat = 0 from rfl, cut8 hk, cut8 (by omega), Nat.sub_zero, Nat.sub_zero]
    refine mix1 rfl rfl ?_
    have hc5 : Cs w5 (some ⟨q, 0, none⟩) ((gainF (Nat.min k (n - k))).map i8v) := fun j u hj => by
      refine Cs.of_blk hR5 j u ?_
      have hj' : j < Nat.min k (n - k) := by have := (List.getElem?_eq_some_iff.1 hj).1; simpa [gainF] using this
      have hjk : j < k := Nat.lt_of_lt_of_le hj' (Nat.min_le_left _ _)
      rw [← hj, List.getElem?_map, List.getElem?_map, List.getElem?_append_left (by omega)]
      unfold gainF
      rw [List.getElem?_replicate, List.getElem?_replicate, if_pos hjk, if_pos hj']
    have hm : Nat.min k (n - k) ≤ n - k ∧ 1 ≤ Nat.min k (n - k) := by simp only [Nat.min_def]; split <;> omega
    refine ev_copy tabOk rfl rfl rfl rfl rfl inf56 hR5 hc5 (by rw [List.length_map]; simp [gainF]) (by rw [hlen k hk1, List.length_map]; simp only [gainF, List.length_replicate]; omega) i8_one (fun w6 hR6 hf6 => ?_)
    have hR6 : R8 w6 q (gainF (k + Nat.min k (n - k)) ++ List.replicate (n - (k + Nat.min k (n - k))) 0) := by
      have h : Blk w6 q _ 56 := hR6
      rw [gain_fill (by omega)] at h; exact h
    have hml : ((gainF (Nat.min k (n - k))).map i8v).length = Nat.min k (n - k) := by simp [gainF]
    rw [hml]
    have hF6 : Fr no w1 w6 := (hF.tr hf5).trans hf6 fun z hz e => by have : z = q := e; omega
    obtain ⟨m, hm0⟩ : ∃ m, m = Nat.min k (n - k) := ⟨_, rfl⟩
    rw [← hm0] at hm hR6 ⊢
    refine mix_op ?_
    refine m_arith 8 rfl rfl rfl (by kernel_rfl) (by kernel_rfl) rfl rfl rfl rfl rfl (by simp only [lowK, hiK]; omega) ?_
    refine mA rfl (by kernel_rfl) (by kernel_rfl) ?_
    refine mix_out rfl ?_
    refine sA [] rfl ?_
    exact ev_next (k + m) (by omega) ⟨by omega, by omega, hR6, hF6⟩ ⟨rfl, by rw [show ((k + m : Nat) : Int) = (k : Int) + m by omega]; rfl, trivial⟩
  · obtain rfl : k = n := by omega
    rw [Nat.sub_self, List.replicate_zero, List.append_nil] at hR
    refine sA [] rfl ?_
    exact ret1 (.inr rfl) rfl rfl ⟨q, rfl, hR, hq, hF⟩
theorem wGains (n : Nat) (w : World) (hn : 1 ≤ n ∧ n ≤ 1000000) :
    CallsF Tryd.prog 46 [i64 n] w fun r w' => ∃ q, r = .slice (some ⟨q, 0, none⟩) n n ∧ R8 w' q (gainF n) ∧ w.heap.size ≤ q ∧ Fr no w w' := by
  refine callsF Tryd.func46 rfl rfl (by decide) rfl ?_
  refine sA [] rfl ?_
  refine ev_buildSlice tabOk rfl rfl rfl inf56 rfl rfl rfl (by simp [Value.cells]) rfl (fun b w1 hb hB hf1 => ?_)
  have hB : R8 w1 b [64] := hB
  refine sA [] rfl ?_
  refine ev_call rfl rfl rfl (wRepeat b n _ hB hn) (fun r w2 hr => ?_)
  obtain ⟨q, rfl, hR, hq, hf2⟩ := hr
  refine sA [] rfl ?_
  exact ret1 (.inr rfl) rfl rfl ⟨q, rfl, hR, Nat.le_trans hf1.size hq, hf1.tr hf2⟩
theorem refSameN (n : Nat) (w : World) (hn : n ≤ 1000000) : CallsF Tryd.prog 42 [.int .i8 64, i64 n] w fun r w' => N8 w w' r (gainF n) := by
  refine callsF Tryd.func42 rfl rfl (by decide) rfl ?_
  refine sA [] rfl ?_
  refine ev_buildSlice tabOk rfl rfl rfl inf56 rfl rfl rfl (fun _ h => by cases h) rfl (fun b w1 hb hb1 hf1 => ?_)
  have hb1 : R8 w1 b [] := hb1
  have hN1 : N8 w w1 (.slice (some ⟨b, 0, none⟩) 0 0) (gainF 0) := N8.of (xs := []) hb1 hb hf1 (Nat.zero_le _)
  refine sA [] rfl ?_
  refine ev_loop (α := Nat × Value) (fun y => [(0, .int .i8 64), (1, i64 n), (5, y.2), (6, i64 y.1)]) (fun y w' => y.1 ≤ n ∧ N8 w w' y.2 (gainF y.1)) (fun y => n - y.1) (0, _) ⟨rfl, rfl, rfl, rfl, trivial⟩ ⟨Nat.zero_le _, hN1⟩ ?_
  clear hN1 hb1
  rintro ⟨i, v⟩ w2 ⟨hi, hN⟩
  simp only at hi hN
  have hgl : (gainF i).length = i := by simp [gainF]
  refine sC [] rfl ?_; refine sD [] rfl ?_; refine sD [] rfl ?_; refine sD [] rfl ?_
  refine ev_condD rfl (fun c => ?_) (fun c => ?_)
  · have hi : i < n := by omega
    refine sA [] rfl ?_
    refine ev_append1 tabOk rfl rfl (fun _ => rfl) rfl rfl inf56 rfl (by omega) (fun _ => rfl) rfl rfl (by simp [Value.cells]) (by simp [flatV, Value.cells, Value.oneCell']) rfl hN.1 (by omega) (fun v5 w5 g ho5 hf5 hn5 => ?_)
    have hN5 := hN.app (ys := [64]) ho5 hf5 hn5
    rw [show gainF i ++ [64] = gainF (i + 1) by unfold gainF; rw [List.replicate_succ']] at hN5
    refine sA [] rfl ?_; refine ev_arith rfl rfl rfl rfl rfl (by simp only [lowK, hiK]; omega) ?_; refine sA [] rfl ?_
    exact ev_next (i + 1, v5) (by simp only; omega) ⟨hi, hN5⟩ ⟨rfl, rfl, rfl, by rw [show ((i + 1 : Nat) : Int) = (i : Int) + 1 by omega]; rfl, trivial⟩
  · obtain rfl : i = n := by omega
    refine sA [] rfl ?_
    exact ret1 (.inr rfl) rfl rfl hN
end Go.Wk.YtfgllkflnkolhaaDoor
