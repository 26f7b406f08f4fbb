/-
  The walks of the wire package: signed numbers read; the document's short and signed ones.
-/
import Derived.Test.YtihjpjpellagiaaWireF2
set_option linter.unusedVariables false
namespace Go.Wk.Ytihjpjpellagiaa
open Go Go.Wk Go.Proofs

theorem rdSigned (p : Nat) (s : List UInt8) (a : Nat) (w : World) (h : Rd w p s a) (ha : a ≤ s.length) (hs : s.length ≤ 140737488355232) (hl : (lg s a 10 0 0).2.1 < 18446744073709551616) :
    CallsF Try.prog 43 [.pointer (some ⟨p, 0, none⟩)] w fun v w' => v = .tuple #[.int .i64 (unzz (lg s a 10 0 0).2.1), .int .i64 (lg s a 10 0 0).1] ∧ Rd w' p s (lg s a 10 0 0).2.2 ∧ Fr (one p) w w' := by
  refine callsF Try.func43 rfl rfl (by decide) rfl ?_
  repeat (first
    | refine stepF_ok tabOk [] (m := 400) rfl ?_
    | refine stepF_ok tabOk [] (m := 16) rfl ?_
    | refine stepF_ok tabOk [] (m := 3) rfl ?_
    | refine stepF_ok tabOk [] (m := 0) rfl ?_
    | refine ev_load rfl rfl tabOk rfl rfl (by assumption) ?_
    | refine ev_loadB rfl rfl tabOk rfl rfl (by assumption) (by rfl) ?_
    | refine ev_loadAggB rfl rfl tabOk rfl rfl (by assumption) (by rfl) ?_
    | refine ev_arith rfl rfl rfl rfl rfl (by simp only [lowK, hiK]; omega) ?_
    | refine ev_rem rfl rfl rfl rfl (by omega) (by omega) ?_
    | refine ev_quo rfl rfl rfl rfl (by omega) (by omega) (by simp only [hiK]; omega) ?_
    | refine ev_index rfl rfl tabOk rfl rfl rfl (by omega) (by omega) ?_
    | refine ev_indexA rfl rfl tabOk rfl rfl rfl (by omega) (by omega) rfl ?_
    | refine ev_convB rfl rfl tabOk rfl rfl rfl rfl ?_
    | refine ev_conv rfl rfl tabOk rfl rfl rfl (by simp only [lowK, hiK]; omega) ?_)
  refine ev_call rfl rfl rfl (rdShortU p s a 10 w h ha hs (by omega)) (fun r w2 hr => ?_)
  obtain ⟨rfl, hR, hf⟩ := hr
  generalize lg s a 10 0 0 = G at *
  obtain ⟨E, n, A⟩ := G
  simp only at hl hR ⊢
  have e1 : (n : Int).fdiv (2 ^ 1) = ((n / 2 : Nat) : Int) := by rw [Int.fdiv_eq_ediv_of_nonneg _ (by omega)]; rfl
  have e2 : bits .and .u64 (n : Int) 1 = ((n % 2 : Nat) : Int) := by rw [show (1 : Int) = ((1 : Nat) : Int) from rfl, bits_and64 (by omega) (by omega), and1]
  have e3 : (IntKind.i64.wrap (((n / 2 : Nat) : Int))) = ((n / 2 : Nat) : Int) := wrapK (k := .i64) (by simp only [lowK, hiK]; omega)
  have key : bits .xor .i64 ((n / 2 : Nat) : Int) (IntKind.i64.wrap (0 - ((n % 2 : Nat) : Int))) = unzz n := by
    have hw : IntKind.i64.wrap (0 - ((n % 2 : Nat) : Int)) = 0 - ((n % 2 : Nat) : Int) := wrapK (k := .i64) (by simp only [lowK, hiK]; omega)
    rw [hw]
    unfold unzz
    by_cases h2 : n % 2 = 1
    · rw [if_pos h2, h2]; exact xor_m1 (by omega)
    · rw [if_neg h2, show n % 2 = 0 by omega]; exact xor_0 (by omega)
  obtain ⟨n1, hn1⟩ : ∃ q, q = n / 2 := ⟨_, rfl⟩
  obtain ⟨n2, hn2⟩ : ∃ q, q = n % 2 := ⟨_, rfl⟩
  rw [← hn1] at e1 key
  rw [← hn2] at e2 key
  repeat (first
    | refine stepF_ok tabOk [] (m := 400) rfl ?_
    | refine stepF_ok tabOk [] (m := 16) rfl ?_
    | refine stepF_ok tabOk [] (m := 3) rfl ?_
    | refine stepF_ok tabOk [] (m := 0) rfl ?_
    | refine ev_load rfl rfl tabOk rfl rfl (by assumption) ?_
    | refine ev_loadB rfl rfl tabOk rfl rfl (by assumption) (by rfl) ?_
    | refine ev_loadAggB rfl rfl tabOk rfl rfl (by assumption) (by rfl) ?_
    | refine ev_arith rfl rfl rfl rfl rfl (by simp only [lowK, hiK]; omega) ?_
    | refine ev_rem rfl rfl rfl rfl (by omega) (by omega) ?_
    | refine ev_quo rfl rfl rfl rfl (by omega) (by omega) (by simp only [hiK]; omega) ?_
    | refine ev_index rfl rfl tabOk rfl rfl rfl (by omega) (by omega) ?_
    | refine ev_indexA rfl rfl tabOk rfl rfl rfl (by omega) (by omega) rfl ?_
    | refine ev_convB rfl rfl tabOk rfl rfl rfl rfl ?_
    | refine ev_conv rfl rfl tabOk rfl rfl rfl (by simp only [lowK, hiK]; omega) ?_)
  rw [e1]
  repeat (first
    | refine stepF_ok tabOk [] (m := 400) rfl ?_
    | refine stepF_ok tabOk [] (m := 16) rfl ?_
    | refine stepF_ok tabOk [] (m := 3) rfl ?_
    | refine stepF_ok tabOk [] (m := 0) rfl ?_
    | refine ev_load rfl rfl tabOk rfl rfl (by assumption) ?_
    | refine ev_loadB rfl rfl tabOk rfl rfl (by assumption) (by rfl) ?_
    | refine ev_loadAggB rfl rfl tabOk rfl rfl (by assumption) (by rfl) ?_
    | refine ev_arith rfl rfl rfl rfl rfl (by simp only [lowK, hiK]; omega) ?_
    | refine ev_rem rfl rfl rfl rfl (by omega) (by omega) ?_
    | refine ev_quo rfl rfl rfl rfl (by omega) (by omega) (by simp only [hiK]; omega) ?_
    | refine ev_index rfl rfl tabOk rfl rfl rfl (by omega) (by omega) ?_
    | refine ev_indexA rfl rfl tabOk rfl rfl rfl (by omega) (by omega) rfl ?_
    | refine ev_convB rfl rfl tabOk rfl rfl rfl rfl ?_
    | refine ev_conv rfl rfl tabOk rfl rfl rfl (by simp only [lowK, hiK]; omega) ?_)
  rw [e2]
  repeat (first
    | refine stepF_ok tabOk [] (m := 400) rfl ?_
    | refine stepF_ok tabOk [] (m := 16) rfl ?_
    | refine stepF_ok tabOk [] (m := 3) rfl ?_
    | refine stepF_ok tabOk [] (m := 0) rfl ?_
    | refine ev_load rfl rfl tabOk rfl rfl (by assumption) ?_
    | refine ev_loadB rfl rfl tabOk rfl rfl (by assumption) (by rfl) ?_
    | refine ev_loadAggB rfl rfl tabOk rfl rfl (by assumption) (by rfl) ?_
    | refine ev_arith rfl rfl rfl rfl rfl (by simp only [lowK, hiK]; omega) ?_
    | refine ev_rem rfl rfl rfl rfl (by omega) (by omega) ?_
    | refine ev_quo rfl rfl rfl rfl (by omega) (by omega) (by simp only [hiK]; omega) ?_
    | refine ev_index rfl rfl tabOk rfl rfl rfl (by omega) (by omega) ?_
    | refine ev_indexA rfl rfl tabOk rfl rfl rfl (by omega) (by omega) rfl ?_
    | refine ev_convB rfl rfl tabOk rfl rfl rfl rfl ?_
    | refine ev_conv rfl rfl tabOk rfl rfl rfl (by simp only [lowK, hiK]; omega) ?_)
  rw [key]
  exact ret2 (.inr rfl) rfl rfl rfl ⟨rfl, hR, hf⟩

set_option maxRecDepth 20000 in
theorem refLong (s : List UInt8) (a m top : Nat) (w : World) (ha : a ≤ s.length) (hs : s.length ≤ 140737488355232) (hm : m = 9 ∧ top = 127 ∨ m = 10 ∧ top = 1) :
    CallsF Try.prog 73 [mR s a, .int .i64 m, .int .u8 top] w fun v w' => v = .tuple #[mR s (lg s a m 0 0).2.2, .int .u64 (lg s a m 0 0).2.1, .int .i64 (lg s a m 0 0).1] ∧ Fr no w w' := by
  obtain ⟨G, hG⟩ : ∃ G, G = lg s a m 0 0 := ⟨_, rfl⟩
  rw [← hG]
  refine callsF Try.func73 rfl rfl (by decide) rfl ?_
  repeat (first
    | refine stepF_ok tabOk [] (m := 400) rfl ?_
    | refine stepF_ok tabOk [] (m := 16) rfl ?_
    | refine stepF_ok tabOk [] (m := 3) rfl ?_
    | refine stepF_ok tabOk [] (m := 0) rfl ?_
    | refine ev_load rfl rfl tabOk rfl rfl (by assumption) ?_
    | refine ev_loadB rfl rfl tabOk rfl rfl (by assumption) (by rfl) ?_
    | refine ev_loadAggB rfl rfl tabOk rfl rfl (by assumption) (by rfl) ?_
    | refine ev_arith rfl rfl rfl rfl rfl (by simp only [lowK, hiK]; omega) ?_
    | refine ev_rem rfl rfl rfl rfl (by omega) (by omega) ?_
    | refine ev_quo rfl rfl rfl rfl (by omega) (by omega) (by simp only [hiK]; omega) ?_
    | refine ev_index rfl rfl tabOk rfl rfl rfl (by omega) (by omega) ?_
    | refine ev_indexA rfl rfl tabOk rfl rfl rfl (by omega) (by omega) rfl ?_
    | refine ev_convB rfl rfl tabOk rfl rfl rfl rfl ?_
    | refine ev_conv rfl rfl tabOk rfl rfl rfl (by simp only [lowK, hiK]; omega) ?_)
  refine ev_box rfl rfl rfl (fun b w1 hbW hB hf => ?_)
  refine ev_alloc rfl rfl inf58 (fun r w2 hr hR hf2 => ?_)
  have hf12 := hf.tr hf2
  have hB2 := hB.fr0 hf2
  have hbr : b ≠ r := fun e => by have := hB.lt; omega
  have hrw : w.heap.size ≤ r := by have := hf.size; omega
  clear hB hf hf2
  repeat (first
    | refine stepF_ok tabOk [] (m := 400) rfl ?_
    | refine stepF_ok tabOk [] (m := 16) rfl ?_
    | refine stepF_ok tabOk [] (m := 3) rfl ?_
    | refine stepF_ok tabOk [] (m := 0) rfl ?_
    | refine ev_load rfl rfl tabOk rfl rfl (by assumption) ?_
    | refine ev_loadB rfl rfl tabOk rfl rfl (by assumption) (by rfl) ?_
    | refine ev_loadAggB rfl rfl tabOk rfl rfl (by assumption) (by rfl) ?_
    | refine ev_arith rfl rfl rfl rfl rfl (by simp only [lowK, hiK]; omega) ?_
    | refine ev_rem rfl rfl rfl rfl (by omega) (by omega) ?_
    | refine ev_quo rfl rfl rfl rfl (by omega) (by omega) (by simp only [hiK]; omega) ?_
    | refine ev_index rfl rfl tabOk rfl rfl rfl (by omega) (by omega) ?_
    | refine ev_indexA rfl rfl tabOk rfl rfl rfl (by omega) (by omega) rfl ?_
    | refine ev_convB rfl rfl tabOk rfl rfl rfl rfl ?_
    | refine ev_conv rfl rfl tabOk rfl rfl rfl (by simp only [lowK, hiK]; omega) ?_)
  refine ev_loop (α := Nat × Nat) (fun y => [(1, .int .i64 m), (2, .int .u8 top), (3, .pointer (some ⟨b, 0, none⟩)), (6, .pointer (some ⟨r, 0, none⟩)), (9, .int .u64 y.2), (10, .int .u64 ((128 ^ y.1 : Nat) : Int)), (11, .int .i64 y.1)])
    (fun y w1 => y.1 ≤ m ∧ y.1 ≤ 9 ∧ y.2 < 128 ^ y.1 ∧ G = lg s a (m - y.1) y.1 y.2 ∧ w1 = w2) (fun y => m - y.1) (0, 0) ⟨rfl, rfl, rfl, rfl, rfl, rfl, rfl, trivial⟩ ⟨Nat.zero_le _, Nat.zero_le _, by simp, hG, rfl⟩ ?_
  clear hG
  rintro ⟨i, n⟩ w3 ⟨hi, hi9, hn, hlg, rfl⟩
  simp only at hi hi9 hn hlg
  have c0 : w3.cell? ⟨b, 0, none⟩ = some (.string (sOf s)) := hB2.cell rfl
  have c1 : w3.cell? ⟨b, 1, none⟩ = some (.int .i64 a) := hB2.cell rfl
  repeat (first
    | refine stepF_ok tabOk [] (m := 400) rfl ?_
    | refine stepF_ok tabOk [] (m := 16) rfl ?_
    | refine stepF_ok tabOk [] (m := 3) rfl ?_
    | refine stepF_ok tabOk [] (m := 0) rfl ?_
    | refine ev_load rfl rfl tabOk rfl rfl (by assumption) ?_
    | refine ev_loadB rfl rfl tabOk rfl rfl (by assumption) (by rfl) ?_
    | refine ev_loadAggB rfl rfl tabOk rfl rfl (by assumption) (by rfl) ?_
    | refine ev_arith rfl rfl rfl rfl rfl (by simp only [lowK, hiK]; omega) ?_
    | refine ev_rem rfl rfl rfl rfl (by omega) (by omega) ?_
    | refine ev_quo rfl rfl rfl rfl (by omega) (by omega) (by simp only [hiK]; omega) ?_
    | refine ev_index rfl rfl tabOk rfl rfl rfl (by omega) (by omega) ?_
    | refine ev_indexA rfl rfl tabOk rfl rfl rfl (by omega) (by omega) rfl ?_
    | refine ev_convB rfl rfl tabOk rfl rfl rfl rfl ?_
    | refine ev_conv rfl rfl tabOk rfl rfl rfl (by simp only [lowK, hiK]; omega) ?_)
  refine ev_condD rfl (fun hlt => ?_) (fun hlt => ?_)
  · simp only at hlt
    have hr1 : m - i = (m - (i + 1)) + 1 := by omega
    rw [hr1] at hlg
    unfold lg at hlg
    repeat (first
      | refine stepF_ok tabOk [] (m := 400) rfl ?_
      | refine stepF_ok tabOk [] (m := 16) rfl ?_
      | refine stepF_ok tabOk [] (m := 3) rfl ?_
      | refine stepF_ok tabOk [] (m := 0) rfl ?_
      | refine ev_load rfl rfl tabOk rfl rfl (by assumption) ?_
      | refine ev_loadB rfl rfl tabOk rfl rfl (by assumption) (by rfl) ?_
      | refine ev_loadAggB rfl rfl tabOk rfl rfl (by assumption) (by rfl) ?_
      | refine ev_arith rfl rfl rfl rfl rfl (by simp only [lowK, hiK]; omega) ?_
      | refine ev_rem rfl rfl rfl rfl (by omega) (by omega) ?_
      | refine ev_quo rfl rfl rfl rfl (by omega) (by omega) (by simp only [hiK]; omega) ?_
      | refine ev_index rfl rfl tabOk rfl rfl rfl (by omega) (by omega) ?_
      | refine ev_indexA rfl rfl tabOk rfl rfl rfl (by omega) (by omega) rfl ?_
      | refine ev_convB rfl rfl tabOk rfl rfl rfl rfl ?_
      | refine ev_conv rfl rfl tabOk rfl rfl rfl (by simp only [lowK, hiK]; omega) ?_)
    refine ev_condD rfl (fun h11 => ?_) (fun h11 => ?_)
    · rw [if_pos (by omega)] at hlg
      repeat (first
        | refine stepF_ok tabOk [] (m := 400) rfl ?_
        | refine stepF_ok tabOk [] (m := 16) rfl ?_
        | refine stepF_ok tabOk [] (m := 3) rfl ?_
        | refine stepF_ok tabOk [] (m := 0) rfl ?_
        | refine ev_load rfl rfl tabOk rfl rfl (by assumption) ?_
        | refine ev_loadB rfl rfl tabOk rfl rfl (by assumption) (by rfl) ?_
        | refine ev_loadAggB rfl rfl tabOk rfl rfl (by assumption) (by rfl) ?_
        | refine ev_arith rfl rfl rfl rfl rfl (by simp only [lowK, hiK]; omega) ?_
        | refine ev_rem rfl rfl rfl rfl (by omega) (by omega) ?_
        | refine ev_quo rfl rfl rfl rfl (by omega) (by omega) (by simp only [hiK]; omega) ?_
        | refine ev_index rfl rfl tabOk rfl rfl rfl (by omega) (by omega) ?_
        | refine ev_indexA rfl rfl tabOk rfl rfl rfl (by omega) (by omega) rfl ?_
        | refine ev_convB rfl rfl tabOk rfl rfl rfl rfl ?_
        | refine ev_conv rfl rfl tabOk rfl rfl rfl (by simp only [lowK, hiK]; omega) ?_)
      refine ev_storeAgg tabOk rfl rfl rfl rfl rfl rfl hR rfl (fun w6 hR6 hf6 => ?_)
      repeat (first
        | refine stepF_ok tabOk [] (m := 400) rfl ?_
        | refine stepF_ok tabOk [] (m := 16) rfl ?_
        | refine stepF_ok tabOk [] (m := 3) rfl ?_
        | refine stepF_ok tabOk [] (m := 0) rfl ?_
        | refine ev_load rfl rfl tabOk rfl rfl (by assumption) ?_
        | refine ev_loadB rfl rfl tabOk rfl rfl (by assumption) (by rfl) ?_
        | refine ev_loadAggB rfl rfl tabOk rfl rfl (by assumption) (by rfl) ?_
        | refine ev_arith rfl rfl rfl rfl rfl (by simp only [lowK, hiK]; omega) ?_
        | refine ev_rem rfl rfl rfl rfl (by omega) (by omega) ?_
        | refine ev_quo rfl rfl rfl rfl (by omega) (by omega) (by simp only [hiK]; omega) ?_
        | refine ev_index rfl rfl tabOk rfl rfl rfl (by omega) (by omega) ?_
        | refine ev_indexA rfl rfl tabOk rfl rfl rfl (by omega) (by omega) rfl ?_
        | refine ev_convB rfl rfl tabOk rfl rfl rfl rfl ?_
        | refine ev_conv rfl rfl tabOk rfl rfl rfl (by simp only [lowK, hiK]; omega) ?_)
      refine retG tabOk (.inr rfl) rfl [mR s a, .int .u64 0, .int .i64 11] ⟨⟨_, rfl, .inl ⟨rfl, _, rfl, rfl, Cs.of_blk hR6⟩⟩, rfl, rfl, trivial⟩ ⟨?_, fresh_set hf12 hrw hf6⟩
      rw [hlg]; rfl
    rw [if_neg (by omega)] at hlg
    repeat (first
      | refine stepF_ok tabOk [] (m := 400) rfl ?_
      | refine stepF_ok tabOk [] (m := 16) rfl ?_
      | refine stepF_ok tabOk [] (m := 3) rfl ?_
      | refine stepF_ok tabOk [] (m := 0) rfl ?_
      | refine ev_load rfl rfl tabOk rfl rfl (by assumption) ?_
      | refine ev_loadB rfl rfl tabOk rfl rfl (by assumption) (by rfl) ?_
      | refine ev_loadAggB rfl rfl tabOk rfl rfl (by assumption) (by rfl) ?_
      | refine ev_arith rfl rfl rfl rfl rfl (by simp only [lowK, hiK]; omega) ?_
      | refine ev_rem rfl rfl rfl rfl (by omega) (by omega) ?_
      | refine ev_quo rfl rfl rfl rfl (by omega) (by omega) (by simp only [hiK]; omega) ?_
      | refine ev_index rfl rfl tabOk rfl rfl rfl (by omega) (by omega) ?_
      | refine ev_indexA rfl rfl tabOk rfl rfl rfl (by omega) (by omega) rfl ?_
      | refine ev_convB rfl rfl tabOk rfl rfl rfl rfl ?_
      | refine ev_conv rfl rfl tabOk rfl rfl rfl (by simp only [lowK, hiK]; omega) ?_)
    have e1 : ((a : Int) + (i : Int)).toNat = a + i := by omega
    rw [e1]
    have hb := (s.getD (a + i) 0).toNat_lt
    generalize s.getD (a + i) 0 = bb at *
    refine ev_join2 (α := Unit) (fun _ => [(1, .int .i64 m), (2, .int .u8 top), (3, .pointer (some ⟨b, 0, none⟩)), (6, .pointer (some ⟨r, 0, none⟩)), (9, .int .u64 n), (10, .int .u64 ((128 ^ i : Nat) : Int)), (11, .int .i64 i), (12, bv bb)])
      (fun _ w5 => w5 = w3 ∧ ¬ (i = m - 1 ∧ top < bb.toNat)) ?_ ?_
    · refine ev_guardD rfl rfl (fun h7 => ?_) (fun h7 => ?_)
      · repeat (first
          | refine stepF_ok tabOk [] (m := 400) rfl ?_
          | refine stepF_ok tabOk [] (m := 16) rfl ?_
          | refine stepF_ok tabOk [] (m := 3) rfl ?_
          | refine stepF_ok tabOk [] (m := 0) rfl ?_
          | refine ev_load rfl rfl tabOk rfl rfl (by assumption) ?_
          | refine ev_loadB rfl rfl tabOk rfl rfl (by assumption) (by rfl) ?_
          | refine ev_loadAggB rfl rfl tabOk rfl rfl (by assumption) (by rfl) ?_
          | refine ev_arith rfl rfl rfl rfl rfl (by simp only [lowK, hiK]; omega) ?_
          | refine ev_rem rfl rfl rfl rfl (by omega) (by omega) ?_
          | refine ev_quo rfl rfl rfl rfl (by omega) (by omega) (by simp only [hiK]; omega) ?_
          | refine ev_index rfl rfl tabOk rfl rfl rfl (by omega) (by omega) ?_
          | refine ev_indexA rfl rfl tabOk rfl rfl rfl (by omega) (by omega) rfl ?_
          | refine ev_convB rfl rfl tabOk rfl rfl rfl rfl ?_
          | refine ev_conv rfl rfl tabOk rfl rfl rfl (by simp only [lowK, hiK]; omega) ?_)
        refine ev_condD rfl (fun h9 => ?_) (fun h9 => ?_)
        · have hl2 : G = (10, 0, a) := by
            rcases hm with ⟨rfl, rfl⟩ | ⟨rfl, rfl⟩
            · rw [if_neg (by omega), if_neg (by omega)] at hlg
              have e0 : 9 - (i + 1) = 0 := by omega
              rw [e0] at hlg
              exact hlg
            · rw [if_pos (by omega)] at hlg
              exact hlg
          repeat (first
            | refine stepF_ok tabOk [] (m := 400) rfl ?_
            | refine stepF_ok tabOk [] (m := 16) rfl ?_
            | refine stepF_ok tabOk [] (m := 3) rfl ?_
            | refine stepF_ok tabOk [] (m := 0) rfl ?_
            | refine ev_load rfl rfl tabOk rfl rfl (by assumption) ?_
            | refine ev_loadB rfl rfl tabOk rfl rfl (by assumption) (by rfl) ?_
            | refine ev_loadAggB rfl rfl tabOk rfl rfl (by assumption) (by rfl) ?_
            | refine ev_arith rfl rfl rfl rfl rfl (by simp only [lowK, hiK]; omega) ?_
            | refine ev_rem rfl rfl rfl rfl (by omega) (by omega) ?_
            | refine ev_quo rfl rfl rfl rfl (by omega) (by omega) (by simp only [hiK]; omega) ?_
            | refine ev_index rfl rfl tabOk rfl rfl rfl (by omega) (by omega) ?_
            | refine ev_indexA rfl rfl tabOk rfl rfl rfl (by omega) (by omega) rfl ?_
            | refine ev_convB rfl rfl tabOk rfl rfl rfl rfl ?_
            | refine ev_conv rfl rfl tabOk rfl rfl rfl (by simp only [lowK, hiK]; omega) ?_)
          refine ev_storeAgg tabOk rfl rfl rfl rfl rfl rfl hR rfl (fun w6 hR6 hf6 => ?_)
          repeat (first
            | refine stepF_ok tabOk [] (m := 400) rfl ?_
            | refine stepF_ok tabOk [] (m := 16) rfl ?_
            | refine stepF_ok tabOk [] (m := 3) rfl ?_
            | refine stepF_ok tabOk [] (m := 0) rfl ?_
            | refine ev_load rfl rfl tabOk rfl rfl (by assumption) ?_
            | refine ev_loadB rfl rfl tabOk rfl rfl (by assumption) (by rfl) ?_
            | refine ev_loadAggB rfl rfl tabOk rfl rfl (by assumption) (by rfl) ?_
            | refine ev_arith rfl rfl rfl rfl rfl (by simp only [lowK, hiK]; omega) ?_
            | refine ev_rem rfl rfl rfl rfl (by omega) (by omega) ?_
            | refine ev_quo rfl rfl rfl rfl (by omega) (by omega) (by simp only [hiK]; omega) ?_
            | refine ev_index rfl rfl tabOk rfl rfl rfl (by omega) (by omega) ?_
            | refine ev_indexA rfl rfl tabOk rfl rfl rfl (by omega) (by omega) rfl ?_
            | refine ev_convB rfl rfl tabOk rfl rfl rfl rfl ?_
            | refine ev_conv rfl rfl tabOk rfl rfl rfl (by simp only [lowK, hiK]; omega) ?_)
          refine retG tabOk (.inr rfl) rfl [mR s a, .int .u64 0, .int .i64 10] ⟨⟨_, rfl, .inl ⟨rfl, _, rfl, rfl, Cs.of_blk hR6⟩⟩, rfl, rfl, trivial⟩ ⟨?_, fresh_set hf12 hrw hf6⟩
          rw [hl2]; rfl
        · repeat (first
            | refine stepF_ok tabOk [] (m := 400) rfl ?_
            | refine stepF_ok tabOk [] (m := 16) rfl ?_
            | refine stepF_ok tabOk [] (m := 3) rfl ?_
            | refine stepF_ok tabOk [] (m := 0) rfl ?_
            | refine ev_load rfl rfl tabOk rfl rfl (by assumption) ?_
            | refine ev_loadB rfl rfl tabOk rfl rfl (by assumption) (by rfl) ?_
            | refine ev_loadAggB rfl rfl tabOk rfl rfl (by assumption) (by rfl) ?_
            | refine ev_arith rfl rfl rfl rfl rfl (by simp only [lowK, hiK]; omega) ?_
            | refine ev_rem rfl rfl rfl rfl (by omega) (by omega) ?_
            | refine ev_quo rfl rfl rfl rfl (by omega) (by omega) (by simp only [hiK]; omega) ?_
            | refine ev_index rfl rfl tabOk rfl rfl rfl (by omega) (by omega) ?_
            | refine ev_indexA rfl rfl tabOk rfl rfl rfl (by omega) (by omega) rfl ?_
            | refine ev_convB rfl rfl tabOk rfl rfl rfl rfl ?_
            | refine ev_conv rfl rfl tabOk rfl rfl rfl (by simp only [lowK, hiK]; omega) ?_)
          exact ev_out () ⟨rfl, fun x => by omega⟩ ⟨rfl, rfl, rfl, rfl, rfl, rfl, rfl, rfl, trivial⟩
      · repeat (first
          | refine stepF_ok tabOk [] (m := 400) rfl ?_
          | refine stepF_ok tabOk [] (m := 16) rfl ?_
          | refine stepF_ok tabOk [] (m := 3) rfl ?_
          | refine stepF_ok tabOk [] (m := 0) rfl ?_
          | refine ev_load rfl rfl tabOk rfl rfl (by assumption) ?_
          | refine ev_loadB rfl rfl tabOk rfl rfl (by assumption) (by rfl) ?_
          | refine ev_loadAggB rfl rfl tabOk rfl rfl (by assumption) (by rfl) ?_
          | refine ev_arith rfl rfl rfl rfl rfl (by simp only [lowK, hiK]; omega) ?_
          | refine ev_rem rfl rfl rfl rfl (by omega) (by omega) ?_
          | refine ev_quo rfl rfl rfl rfl (by omega) (by omega) (by simp only [hiK]; omega) ?_
          | refine ev_index rfl rfl tabOk rfl rfl rfl (by omega) (by omega) ?_
          | refine ev_indexA rfl rfl tabOk rfl rfl rfl (by omega) (by omega) rfl ?_
          | refine ev_convB rfl rfl tabOk rfl rfl rfl rfl ?_
          | refine ev_conv rfl rfl tabOk rfl rfl rfl (by simp only [lowK, hiK]; omega) ?_)
        exact ev_out () ⟨rfl, fun x => by omega⟩ ⟨rfl, rfl, rfl, rfl, rfl, rfl, rfl, rfl, trivial⟩
    rintro _ w5 ⟨rfl, hno⟩
    rw [if_neg (by omega)] at hlg
    have hst := step128 (b := bb.toNat) hn
    have hp9 := pow128_le hi9
    have hbnd : n + 128 ^ i * (bb.toNat % 128) < 18446744073709551616 := by
      by_cases h9 : i = 9
      · subst h9
        have hb1 : bb.toNat % 128 ≤ 1 := by omega
        have : 128 ^ 9 * (bb.toNat % 128) ≤ 128 ^ 9 * 1 := Nat.mul_le_mul_left _ hb1
        omega
      · have := pow128_le (i := i + 1) (by omega)
        omega
    have em : ((128 ^ i : Nat) : Int) * ((bb.toNat : Int) % 128) = ((128 ^ i * (bb.toNat % 128) : Nat) : Int) := by rw [Int.natCast_mul]; rfl
    obtain ⟨U, hU⟩ : ∃ U, U = 128 ^ i := ⟨_, rfl⟩
    rw [← hU] at em hbnd hlg hst hn hp9 ⊢
    repeat (first
      | refine stepF_ok tabOk [] (m := 400) rfl ?_
      | refine stepF_ok tabOk [] (m := 16) rfl ?_
      | refine stepF_ok tabOk [] (m := 3) rfl ?_
      | refine stepF_ok tabOk [] (m := 0) rfl ?_
      | refine ev_load rfl rfl tabOk rfl rfl (by assumption) ?_
      | refine ev_loadB rfl rfl tabOk rfl rfl (by assumption) (by rfl) ?_
      | refine ev_loadAggB rfl rfl tabOk rfl rfl (by assumption) (by rfl) ?_
      | refine ev_arith rfl rfl rfl rfl rfl (by simp only [lowK, hiK]; omega) ?_
      | refine ev_rem rfl rfl rfl rfl (by omega) (by omega) ?_
      | refine ev_quo rfl rfl rfl rfl (by omega) (by omega) (by simp only [hiK]; omega) ?_
      | refine ev_index rfl rfl tabOk rfl rfl rfl (by omega) (by omega) ?_
      | refine ev_indexA rfl rfl tabOk rfl rfl rfl (by omega) (by omega) rfl ?_
      | refine ev_convB rfl rfl tabOk rfl rfl rfl rfl ?_
      | refine ev_conv rfl rfl tabOk rfl rfl rfl (by simp only [lowK, hiK]; omega) ?_)
    rw [em]
    refine ev_arithW rfl rfl rfl rfl rfl ?_
    repeat (first
      | refine stepF_ok tabOk [] (m := 400) rfl ?_
      | refine stepF_ok tabOk [] (m := 16) rfl ?_
      | refine stepF_ok tabOk [] (m := 3) rfl ?_
      | refine stepF_ok tabOk [] (m := 0) rfl ?_
      | refine ev_load rfl rfl tabOk rfl rfl (by assumption) ?_
      | refine ev_loadB rfl rfl tabOk rfl rfl (by assumption) (by rfl) ?_
      | refine ev_loadAggB rfl rfl tabOk rfl rfl (by assumption) (by rfl) ?_
      | refine ev_arith rfl rfl rfl rfl rfl (by simp only [lowK, hiK]; omega) ?_
      | refine ev_rem rfl rfl rfl rfl (by omega) (by omega) ?_
      | refine ev_quo rfl rfl rfl rfl (by omega) (by omega) (by simp only [hiK]; omega) ?_
      | refine ev_index rfl rfl tabOk rfl rfl rfl (by omega) (by omega) ?_
      | refine ev_indexA rfl rfl tabOk rfl rfl rfl (by omega) (by omega) rfl ?_
      | refine ev_convB rfl rfl tabOk rfl rfl rfl rfl ?_
      | refine ev_conv rfl rfl tabOk rfl rfl rfl (by simp only [lowK, hiK]; omega) ?_)
    refine ev_condD rfl (fun h128 => ?_) (fun h128 => ?_)
    · have h128' : bb.toNat < 128 := by omega
      rw [if_pos h128'] at hlg
      rw [Nat.mod_eq_of_lt h128'] at hbnd ⊢
      have fin : ¬ (bb.toNat = 0 ∧ 0 < i) → G = (0, n + U * bb.toNat, a + i + 1) := fun hz => by rw [if_neg hz] at hlg; exact hlg
      repeat (first
        | refine stepF_ok tabOk [] (m := 400) rfl ?_
        | refine stepF_ok tabOk [] (m := 16) rfl ?_
        | refine stepF_ok tabOk [] (m := 3) rfl ?_
        | refine stepF_ok tabOk [] (m := 0) rfl ?_
        | refine ev_load rfl rfl tabOk rfl rfl (by assumption) ?_
        | refine ev_loadB rfl rfl tabOk rfl rfl (by assumption) (by rfl) ?_
        | refine ev_loadAggB rfl rfl tabOk rfl rfl (by assumption) (by rfl) ?_
        | refine ev_arith rfl rfl rfl rfl rfl (by simp only [lowK, hiK]; omega) ?_
        | refine ev_rem rfl rfl rfl rfl (by omega) (by omega) ?_
        | refine ev_quo rfl rfl rfl rfl (by omega) (by omega) (by simp only [hiK]; omega) ?_
        | refine ev_index rfl rfl tabOk rfl rfl rfl (by omega) (by omega) ?_
        | refine ev_indexA rfl rfl tabOk rfl rfl rfl (by omega) (by omega) rfl ?_
        | refine ev_convB rfl rfl tabOk rfl rfl rfl rfl ?_
        | refine ev_conv rfl rfl tabOk rfl rfl rfl (by simp only [lowK, hiK]; omega) ?_)
      refine ev_join2 (α := Unit) (fun _ => [(3, .pointer (some ⟨b, 0, none⟩)), (6, .pointer (some ⟨r, 0, none⟩)), (9, .int .u64 ((n : Int) + ((U * bb.toNat : Nat) : Int))), (11, .int .i64 i)])
        (fun _ w6 => w6 = w5 ∧ ¬ (bb.toNat = 0 ∧ 0 < i)) ?_ ?_
      · refine ev_guardD rfl rfl (fun h0 => ?_) (fun h0 => ?_)
        · repeat (first
            | refine stepF_ok tabOk [] (m := 400) rfl ?_
            | refine stepF_ok tabOk [] (m := 16) rfl ?_
            | refine stepF_ok tabOk [] (m := 3) rfl ?_
            | refine stepF_ok tabOk [] (m := 0) rfl ?_
            | refine ev_load rfl rfl tabOk rfl rfl (by assumption) ?_
            | refine ev_loadB rfl rfl tabOk rfl rfl (by assumption) (by rfl) ?_
            | refine ev_loadAggB rfl rfl tabOk rfl rfl (by assumption) (by rfl) ?_
            | refine ev_arith rfl rfl rfl rfl rfl (by simp only [lowK, hiK]; omega) ?_
            | refine ev_rem rfl rfl rfl rfl (by omega) (by omega) ?_
            | refine ev_quo rfl rfl rfl rfl (by omega) (by omega) (by simp only [hiK]; omega) ?_
            | refine ev_index rfl rfl tabOk rfl rfl rfl (by omega) (by omega) ?_
            | refine ev_indexA rfl rfl tabOk rfl rfl rfl (by omega) (by omega) rfl ?_
            | refine ev_convB rfl rfl tabOk rfl rfl rfl rfl ?_
            | refine ev_conv rfl rfl tabOk rfl rfl rfl (by simp only [lowK, hiK]; omega) ?_)
          refine ev_condD rfl (fun hz => ?_) (fun hz => ?_)
          · rw [if_pos (by omega)] at hlg
            repeat (first
              | refine stepF_ok tabOk [] (m := 400) rfl ?_
              | refine stepF_ok tabOk [] (m := 16) rfl ?_
              | refine stepF_ok tabOk [] (m := 3) rfl ?_
              | refine stepF_ok tabOk [] (m := 0) rfl ?_
              | refine ev_load rfl rfl tabOk rfl rfl (by assumption) ?_
              | refine ev_loadB rfl rfl tabOk rfl rfl (by assumption) (by rfl) ?_
              | refine ev_loadAggB rfl rfl tabOk rfl rfl (by assumption) (by rfl) ?_
              | refine ev_arith rfl rfl rfl rfl rfl (by simp only [lowK, hiK]; omega) ?_
              | refine ev_rem rfl rfl rfl rfl (by omega) (by omega) ?_
              | refine ev_quo rfl rfl rfl rfl (by omega) (by omega) (by simp only [hiK]; omega) ?_
              | refine ev_index rfl rfl tabOk rfl rfl rfl (by omega) (by omega) ?_
              | refine ev_indexA rfl rfl tabOk rfl rfl rfl (by omega) (by omega) rfl ?_
              | refine ev_convB rfl rfl tabOk rfl rfl rfl rfl ?_
              | refine ev_conv rfl rfl tabOk rfl rfl rfl (by simp only [lowK, hiK]; omega) ?_)
            refine ev_storeAgg tabOk rfl rfl rfl rfl rfl rfl hR rfl (fun w6 hR6 hf6 => ?_)
            repeat (first
              | refine stepF_ok tabOk [] (m := 400) rfl ?_
              | refine stepF_ok tabOk [] (m := 16) rfl ?_
              | refine stepF_ok tabOk [] (m := 3) rfl ?_
              | refine stepF_ok tabOk [] (m := 0) rfl ?_
              | refine ev_load rfl rfl tabOk rfl rfl (by assumption) ?_
              | refine ev_loadB rfl rfl tabOk rfl rfl (by assumption) (by rfl) ?_
              | refine ev_loadAggB rfl rfl tabOk rfl rfl (by assumption) (by rfl) ?_
              | refine ev_arith rfl rfl rfl rfl rfl (by simp only [lowK, hiK]; omega) ?_
              | refine ev_rem rfl rfl rfl rfl (by omega) (by omega) ?_
              | refine ev_quo rfl rfl rfl rfl (by omega) (by omega) (by simp only [hiK]; omega) ?_
              | refine ev_index rfl rfl tabOk rfl rfl rfl (by omega) (by omega) ?_
              | refine ev_indexA rfl rfl tabOk rfl rfl rfl (by omega) (by omega) rfl ?_
              | refine ev_convB rfl rfl tabOk rfl rfl rfl rfl ?_
              | refine ev_conv rfl rfl tabOk rfl rfl rfl (by simp only [lowK, hiK]; omega) ?_)
            refine retG tabOk (.inr rfl) rfl [mR s a, .int .u64 0, .int .i64 14] ⟨⟨_, rfl, .inl ⟨rfl, _, rfl, rfl, Cs.of_blk hR6⟩⟩, rfl, rfl, trivial⟩ ⟨?_, fresh_set hf12 hrw hf6⟩
            rw [hlg]; rfl
          · repeat (first
              | refine stepF_ok tabOk [] (m := 400) rfl ?_
              | refine stepF_ok tabOk [] (m := 16) rfl ?_
              | refine stepF_ok tabOk [] (m := 3) rfl ?_
              | refine stepF_ok tabOk [] (m := 0) rfl ?_
              | refine ev_load rfl rfl tabOk rfl rfl (by assumption) ?_
              | refine ev_loadB rfl rfl tabOk rfl rfl (by assumption) (by rfl) ?_
              | refine ev_loadAggB rfl rfl tabOk rfl rfl (by assumption) (by rfl) ?_
              | refine ev_arith rfl rfl rfl rfl rfl (by simp only [lowK, hiK]; omega) ?_
              | refine ev_rem rfl rfl rfl rfl (by omega) (by omega) ?_
              | refine ev_quo rfl rfl rfl rfl (by omega) (by omega) (by simp only [hiK]; omega) ?_
              | refine ev_index rfl rfl tabOk rfl rfl rfl (by omega) (by omega) ?_
              | refine ev_indexA rfl rfl tabOk rfl rfl rfl (by omega) (by omega) rfl ?_
              | refine ev_convB rfl rfl tabOk rfl rfl rfl rfl ?_
              | refine ev_conv rfl rfl tabOk rfl rfl rfl (by simp only [lowK, hiK]; omega) ?_)
            exact ev_out () ⟨rfl, fun x => by omega⟩ ⟨rfl, rfl, rfl, rfl, trivial⟩
        · repeat (first
            | refine stepF_ok tabOk [] (m := 400) rfl ?_
            | refine stepF_ok tabOk [] (m := 16) rfl ?_
            | refine stepF_ok tabOk [] (m := 3) rfl ?_
            | refine stepF_ok tabOk [] (m := 0) rfl ?_
            | refine ev_load rfl rfl tabOk rfl rfl (by assumption) ?_
            | refine ev_loadB rfl rfl tabOk rfl rfl (by assumption) (by rfl) ?_
            | refine ev_loadAggB rfl rfl tabOk rfl rfl (by assumption) (by rfl) ?_
            | refine ev_arith rfl rfl rfl rfl rfl (by simp only [lowK, hiK]; omega) ?_
            | refine ev_rem rfl rfl rfl rfl (by omega) (by omega) ?_
            | refine ev_quo rfl rfl rfl rfl (by omega) (by omega) (by simp only [hiK]; omega) ?_
            | refine ev_index rfl rfl tabOk rfl rfl rfl (by omega) (by omega) ?_
            | refine ev_indexA rfl rfl tabOk rfl rfl rfl (by omega) (by omega) rfl ?_
            | refine ev_convB rfl rfl tabOk rfl rfl rfl rfl ?_
            | refine ev_conv rfl rfl tabOk rfl rfl rfl (by simp only [lowK, hiK]; omega) ?_)
          exact ev_out () ⟨rfl, fun x => by omega⟩ ⟨rfl, rfl, rfl, rfl, trivial⟩
      rintro _ w6 ⟨rfl, hz⟩
      have hfin := fin hz
      clear fin
      repeat (first
        | refine stepF_ok tabOk [] (m := 400) rfl ?_
        | refine stepF_ok tabOk [] (m := 16) rfl ?_
        | refine stepF_ok tabOk [] (m := 3) rfl ?_
        | refine stepF_ok tabOk [] (m := 0) rfl ?_
        | refine ev_load rfl rfl tabOk rfl rfl (by assumption) ?_
        | refine ev_loadB rfl rfl tabOk rfl rfl (by assumption) (by rfl) ?_
        | refine ev_loadAggB rfl rfl tabOk rfl rfl (by assumption) (by rfl) ?_
        | refine ev_arith rfl rfl rfl rfl rfl (by simp only [lowK, hiK]; omega) ?_
        | refine ev_rem rfl rfl rfl rfl (by omega) (by omega) ?_
        | refine ev_quo rfl rfl rfl rfl (by omega) (by omega) (by simp only [hiK]; omega) ?_
        | refine ev_index rfl rfl tabOk rfl rfl rfl (by omega) (by omega) ?_
        | refine ev_indexA rfl rfl tabOk rfl rfl rfl (by omega) (by omega) rfl ?_
        | refine ev_convB rfl rfl tabOk rfl rfl rfl rfl ?_
        | refine ev_conv rfl rfl tabOk rfl rfl rfl (by simp only [lowK, hiK]; omega) ?_)
      refine ev_store tabOk rfl rfl rfl rfl rfl rfl hB2 rfl (fun w7 hB7 hf7 => ?_)
      have hR7 := hR.fr hf7 (fun e => hbr e.symm)
      clear c0 c1
      repeat (first
        | refine stepF_ok tabOk [] (m := 400) rfl ?_
        | refine stepF_ok tabOk [] (m := 16) rfl ?_
        | refine stepF_ok tabOk [] (m := 3) rfl ?_
        | refine stepF_ok tabOk [] (m := 0) rfl ?_
        | refine ev_load rfl rfl tabOk rfl rfl (by assumption) ?_
        | refine ev_loadB rfl rfl tabOk rfl rfl (by assumption) (by rfl) ?_
        | refine ev_loadAggB rfl rfl tabOk rfl rfl (by assumption) (by rfl) ?_
        | refine ev_arith rfl rfl rfl rfl rfl (by simp only [lowK, hiK]; omega) ?_
        | refine ev_rem rfl rfl rfl rfl (by omega) (by omega) ?_
        | refine ev_quo rfl rfl rfl rfl (by omega) (by omega) (by simp only [hiK]; omega) ?_
        | refine ev_index rfl rfl tabOk rfl rfl rfl (by omega) (by omega) ?_
        | refine ev_indexA rfl rfl tabOk rfl rfl rfl (by omega) (by omega) rfl ?_
        | refine ev_convB rfl rfl tabOk rfl rfl rfl rfl ?_
        | refine ev_conv rfl rfl tabOk rfl rfl rfl (by simp only [lowK, hiK]; omega) ?_)
      refine ev_storeAgg tabOk rfl rfl rfl rfl rfl rfl hR7 rfl (fun w8 hR8 hf8 => ?_)
      repeat (first
        | refine stepF_ok tabOk [] (m := 400) rfl ?_
        | refine stepF_ok tabOk [] (m := 16) rfl ?_
        | refine stepF_ok tabOk [] (m := 3) rfl ?_
        | refine stepF_ok tabOk [] (m := 0) rfl ?_
        | refine ev_load rfl rfl tabOk rfl rfl (by assumption) ?_
        | refine ev_loadB rfl rfl tabOk rfl rfl (by assumption) (by rfl) ?_
        | refine ev_loadAggB rfl rfl tabOk rfl rfl (by assumption) (by rfl) ?_
        | refine ev_arith rfl rfl rfl rfl rfl (by simp only [lowK, hiK]; omega) ?_
        | refine ev_rem rfl rfl rfl rfl (by omega) (by omega) ?_
        | refine ev_quo rfl rfl rfl rfl (by omega) (by omega) (by simp only [hiK]; omega) ?_
        | refine ev_index rfl rfl tabOk rfl rfl rfl (by omega) (by omega) ?_
        | refine ev_indexA rfl rfl tabOk rfl rfl rfl (by omega) (by omega) rfl ?_
        | refine ev_convB rfl rfl tabOk rfl rfl rfl rfl ?_
        | refine ev_conv rfl rfl tabOk rfl rfl rfl (by simp only [lowK, hiK]; omega) ?_)
      refine retG tabOk (.inr rfl) rfl [.agg ⟨[.string (sOf s), .int .i64 ((a : Int) + ((i : Int) + 1))]⟩, .int .u64 ((n : Int) + ((U * bb.toNat : Nat) : Int)), .int .i64 0] ⟨⟨_, rfl, .inl ⟨rfl, _, rfl, rfl, Cs.of_blk hR8⟩⟩, rfl, rfl, trivial⟩ ⟨?_, fresh_set (fresh_set hf12 hbW hf7) hrw hf8⟩
      have e2 : (a : Int) + ((i : Int) + 1) = ((a + i + 1 : Nat) : Int) := by omega
      rw [hfin, e2]; rfl
    · rw [if_neg (by omega)] at hlg
      have hU1 : U * 128 = 128 ^ (i + 1) := by rw [Nat.pow_succ, hU]
      repeat (first
        | refine stepF_ok tabOk [] (m := 400) rfl ?_
        | refine stepF_ok tabOk [] (m := 16) rfl ?_
        | refine stepF_ok tabOk [] (m := 3) rfl ?_
        | refine stepF_ok tabOk [] (m := 0) rfl ?_
        | refine ev_load rfl rfl tabOk rfl rfl (by assumption) ?_
        | refine ev_loadB rfl rfl tabOk rfl rfl (by assumption) (by rfl) ?_
        | refine ev_loadAggB rfl rfl tabOk rfl rfl (by assumption) (by rfl) ?_
        | refine ev_arith rfl rfl rfl rfl rfl (by simp only [lowK, hiK]; omega) ?_
        | refine ev_rem rfl rfl rfl rfl (by omega) (by omega) ?_
        | refine ev_quo rfl rfl rfl rfl (by omega) (by omega) (by simp only [hiK]; omega) ?_
        | refine ev_index rfl rfl tabOk rfl rfl rfl (by omega) (by omega) ?_
        | refine ev_indexA rfl rfl tabOk rfl rfl rfl (by omega) (by omega) rfl ?_
        | refine ev_convB rfl rfl tabOk rfl rfl rfl rfl ?_
        | refine ev_conv rfl rfl tabOk rfl rfl rfl (by simp only [lowK, hiK]; omega) ?_)
      refine ev_next (i + 1, n + U * (bb.toNat % 128)) (by simp only; omega) ⟨by simp only; omega, by simp only; omega, hst, hlg, rfl⟩ ⟨rfl, rfl, rfl, rfl, rfl, ?_, rfl, trivial⟩
      have hp := pow128_le (i := i + 1) (by omega)
      show some (Value.int .u64 (IntKind.u64.wrap ((U : Int) * 128))) = some (Value.int .u64 ((128 ^ (i + 1) : Nat) : Int))
      rw [← hU1, wrapK (k := .u64) (by simp only [lowK, hiK]; omega)]; rfl
  · simp only at hlt
    have h0 : m - i = 0 := by omega
    rw [h0] at hlg
    repeat (first
      | refine stepF_ok tabOk [] (m := 400) rfl ?_
      | refine stepF_ok tabOk [] (m := 16) rfl ?_
      | refine stepF_ok tabOk [] (m := 3) rfl ?_
      | refine stepF_ok tabOk [] (m := 0) rfl ?_
      | refine ev_load rfl rfl tabOk rfl rfl (by assumption) ?_
      | refine ev_loadB rfl rfl tabOk rfl rfl (by assumption) (by rfl) ?_
      | refine ev_loadAggB rfl rfl tabOk rfl rfl (by assumption) (by rfl) ?_
      | refine ev_arith rfl rfl rfl rfl rfl (by simp only [lowK, hiK]; omega) ?_
      | refine ev_rem rfl rfl rfl rfl (by omega) (by omega) ?_
      | refine ev_quo rfl rfl rfl rfl (by omega) (by omega) (by simp only [hiK]; omega) ?_
      | refine ev_index rfl rfl tabOk rfl rfl rfl (by omega) (by omega) ?_
      | refine ev_indexA rfl rfl tabOk rfl rfl rfl (by omega) (by omega) rfl ?_
      | refine ev_convB rfl rfl tabOk rfl rfl rfl rfl ?_
      | refine ev_conv rfl rfl tabOk rfl rfl rfl (by simp only [lowK, hiK]; omega) ?_)
    refine ev_storeAgg tabOk rfl rfl rfl rfl rfl rfl hR rfl (fun w6 hR6 hf6 => ?_)
    repeat (first
      | refine stepF_ok tabOk [] (m := 400) rfl ?_
      | refine stepF_ok tabOk [] (m := 16) rfl ?_
      | refine stepF_ok tabOk [] (m := 3) rfl ?_
      | refine stepF_ok tabOk [] (m := 0) rfl ?_
      | refine ev_load rfl rfl tabOk rfl rfl (by assumption) ?_
      | refine ev_loadB rfl rfl tabOk rfl rfl (by assumption) (by rfl) ?_
      | refine ev_loadAggB rfl rfl tabOk rfl rfl (by assumption) (by rfl) ?_
      | refine ev_arith rfl rfl rfl rfl rfl (by simp only [lowK, hiK]; omega) ?_
      | refine ev_rem rfl rfl rfl rfl (by omega) (by omega) ?_
      | refine ev_quo rfl rfl rfl rfl (by omega) (by omega) (by simp only [hiK]; omega) ?_
      | refine ev_index rfl rfl tabOk rfl rfl rfl (by omega) (by omega) ?_
      | refine ev_indexA rfl rfl tabOk rfl rfl rfl (by omega) (by omega) rfl ?_
      | refine ev_convB rfl rfl tabOk rfl rfl rfl rfl ?_
      | refine ev_conv rfl rfl tabOk rfl rfl rfl (by simp only [lowK, hiK]; omega) ?_)
    refine retG tabOk (.inr rfl) rfl [mR s a, .int .u64 0, .int .i64 10] ⟨⟨_, rfl, .inl ⟨rfl, _, rfl, rfl, Cs.of_blk hR6⟩⟩, rfl, rfl, trivial⟩ ⟨?_, fresh_set hf12 hrw hf6⟩
    rw [hlg]; rfl

theorem refReadShort (s : List UInt8) (a : Nat) (w : World) (ha : a ≤ s.length) (hs : s.length ≤ 140737488355232) :
    CallsF Try.prog 70 [mR s a] w fun v w' => v = .tuple #[mR s (lg s a 9 0 0).2.2, .int .i64 (lg s a 9 0 0).2.1, .int .i64 (lg s a 9 0 0).1] ∧ Fr no w w' := by
  have hl := lg9_lt s a
  refine callsF Try.func70 rfl rfl (by decide) rfl ?_
  repeat (first
    | refine stepF_ok tabOk [] (m := 400) rfl ?_
    | refine stepF_ok tabOk [] (m := 16) rfl ?_
    | refine stepF_ok tabOk [] (m := 3) rfl ?_
    | refine stepF_ok tabOk [] (m := 0) rfl ?_
    | refine ev_load rfl rfl tabOk rfl rfl (by assumption) ?_
    | refine ev_loadB rfl rfl tabOk rfl rfl (by assumption) (by rfl) ?_
    | refine ev_loadAggB rfl rfl tabOk rfl rfl (by assumption) (by rfl) ?_
    | refine ev_arith rfl rfl rfl rfl rfl (by simp only [lowK, hiK]; omega) ?_
    | refine ev_rem rfl rfl rfl rfl (by omega) (by omega) ?_
    | refine ev_quo rfl rfl rfl rfl (by omega) (by omega) (by simp only [hiK]; omega) ?_
    | refine ev_index rfl rfl tabOk rfl rfl rfl (by omega) (by omega) ?_
    | refine ev_indexA rfl rfl tabOk rfl rfl rfl (by omega) (by omega) rfl ?_
    | refine ev_convB rfl rfl tabOk rfl rfl rfl rfl ?_
    | refine ev_conv rfl rfl tabOk rfl rfl rfl (by simp only [lowK, hiK]; omega) ?_)
  refine ev_box rfl rfl rfl (fun b w1 hb hB hf => ?_)
  refine ev_alloc rfl rfl inf58 (fun r w2 hr hR hf2 => ?_)
  have hf12 := hf.tr hf2
  have hB2 := hB.fr0 hf2
  have hrw : w.heap.size ≤ r := by have := hf.size; omega
  clear hB hf hf2
  repeat (first
    | refine stepF_ok tabOk [] (m := 400) rfl ?_
    | refine stepF_ok tabOk [] (m := 16) rfl ?_
    | refine stepF_ok tabOk [] (m := 3) rfl ?_
    | refine stepF_ok tabOk [] (m := 0) rfl ?_
    | refine ev_load rfl rfl tabOk rfl rfl (by assumption) ?_
    | refine ev_loadB rfl rfl tabOk rfl rfl (by assumption) (by rfl) ?_
    | refine ev_loadAggB rfl rfl tabOk rfl rfl (by assumption) (by rfl) ?_
    | refine ev_arith rfl rfl rfl rfl rfl (by simp only [lowK, hiK]; omega) ?_
    | refine ev_rem rfl rfl rfl rfl (by omega) (by omega) ?_
    | refine ev_quo rfl rfl rfl rfl (by omega) (by omega) (by simp only [hiK]; omega) ?_
    | refine ev_index rfl rfl tabOk rfl rfl rfl (by omega) (by omega) ?_
    | refine ev_indexA rfl rfl tabOk rfl rfl rfl (by omega) (by omega) rfl ?_
    | refine ev_convB rfl rfl tabOk rfl rfl rfl rfl ?_
    | refine ev_conv rfl rfl tabOk rfl rfl rfl (by simp only [lowK, hiK]; omega) ?_)
  refine ev_call rfl rfl rfl (refLong s a 9 127 _ ha hs (.inl ⟨rfl, rfl⟩)) (fun q w3 hq => ?_)
  obtain ⟨rfl, hf3⟩ := hq
  have hR3 := hR.fr0 hf3
  have hrlt := hR.lt
  clear hR hB2
  generalize lg s a 9 0 0 = G at *
  repeat (first
    | refine stepF_ok tabOk [] (m := 400) rfl ?_
    | refine stepF_ok tabOk [] (m := 16) rfl ?_
    | refine stepF_ok tabOk [] (m := 3) rfl ?_
    | refine stepF_ok tabOk [] (m := 0) rfl ?_
    | refine ev_load rfl rfl tabOk rfl rfl (by assumption) ?_
    | refine ev_loadB rfl rfl tabOk rfl rfl (by assumption) (by rfl) ?_
    | refine ev_loadAggB rfl rfl tabOk rfl rfl (by assumption) (by rfl) ?_
    | refine ev_arith rfl rfl rfl rfl rfl (by simp only [lowK, hiK]; omega) ?_
    | refine ev_rem rfl rfl rfl rfl (by omega) (by omega) ?_
    | refine ev_quo rfl rfl rfl rfl (by omega) (by omega) (by simp only [hiK]; omega) ?_
    | refine ev_index rfl rfl tabOk rfl rfl rfl (by omega) (by omega) ?_
    | refine ev_indexA rfl rfl tabOk rfl rfl rfl (by omega) (by omega) rfl ?_
    | refine ev_convB rfl rfl tabOk rfl rfl rfl rfl ?_
    | refine ev_conv rfl rfl tabOk rfl rfl rfl (by simp only [lowK, hiK]; omega) ?_)
  refine ev_alloc rfl rfl inf58 (fun c w4 hc hC hf4 => ?_)
  refine ev_storeAgg tabOk rfl rfl rfl rfl rfl rfl hC rfl (fun w5 hC5 hf5 => ?_)
  have hs3 := hf3.size
  have hR5 := (hR3.fr0 hf4).fr hf5 (fun e => by omega)
  have hf15 : Fr no w w5 := fresh_set ((hf12.tr hf3).tr hf4) (by have := hf12.size; omega) hf5
  clear hC hR3
  repeat (first
    | refine stepF_ok tabOk [] (m := 400) rfl ?_
    | refine stepF_ok tabOk [] (m := 16) rfl ?_
    | refine stepF_ok tabOk [] (m := 3) rfl ?_
    | refine stepF_ok tabOk [] (m := 0) rfl ?_
    | refine ev_load rfl rfl tabOk rfl rfl (by assumption) ?_
    | refine ev_loadB rfl rfl tabOk rfl rfl (by assumption) (by rfl) ?_
    | refine ev_loadAggB rfl rfl tabOk rfl rfl (by assumption) (by rfl) ?_
    | refine ev_arith rfl rfl rfl rfl rfl (by simp only [lowK, hiK]; omega) ?_
    | refine ev_rem rfl rfl rfl rfl (by omega) (by omega) ?_
    | refine ev_quo rfl rfl rfl rfl (by omega) (by omega) (by simp only [hiK]; omega) ?_
    | refine ev_index rfl rfl tabOk rfl rfl rfl (by omega) (by omega) ?_
    | refine ev_indexA rfl rfl tabOk rfl rfl rfl (by omega) (by omega) rfl ?_
    | refine ev_convB rfl rfl tabOk rfl rfl rfl rfl ?_
    | refine ev_conv rfl rfl tabOk rfl rfl rfl (by simp only [lowK, hiK]; omega) ?_)
  refine ev_storeAgg tabOk rfl rfl rfl rfl rfl rfl hR5 rfl (fun w6 hR6 hf6 => ?_)
  repeat (first
    | refine stepF_ok tabOk [] (m := 400) rfl ?_
    | refine stepF_ok tabOk [] (m := 16) rfl ?_
    | refine stepF_ok tabOk [] (m := 3) rfl ?_
    | refine stepF_ok tabOk [] (m := 0) rfl ?_
    | refine ev_load rfl rfl tabOk rfl rfl (by assumption) ?_
    | refine ev_loadB rfl rfl tabOk rfl rfl (by assumption) (by rfl) ?_
    | refine ev_loadAggB rfl rfl tabOk rfl rfl (by assumption) (by rfl) ?_
    | refine ev_arith rfl rfl rfl rfl rfl (by simp only [lowK, hiK]; omega) ?_
    | refine ev_rem rfl rfl rfl rfl (by omega) (by omega) ?_
    | refine ev_quo rfl rfl rfl rfl (by omega) (by omega) (by simp only [hiK]; omega) ?_
    | refine ev_index rfl rfl tabOk rfl rfl rfl (by omega) (by omega) ?_
    | refine ev_indexA rfl rfl tabOk rfl rfl rfl (by omega) (by omega) rfl ?_
    | refine ev_convB rfl rfl tabOk rfl rfl rfl rfl ?_
    | refine ev_conv rfl rfl tabOk rfl rfl rfl (by simp only [lowK, hiK]; omega) ?_)
  exact retG tabOk (.inr rfl) rfl [mR s G.2.2, .int .i64 G.2.1, .int .i64 G.1] ⟨⟨_, rfl, .inl ⟨rfl, _, rfl, rfl, Cs.of_blk hR6⟩⟩, rfl, rfl, trivial⟩ ⟨rfl, fresh_set hf15 hrw hf6⟩

theorem refReadSigned (s : List UInt8) (a : Nat) (w : World) (ha : a ≤ s.length) (hs : s.length ≤ 140737488355232) (hl : (lg s a 10 0 0).2.1 < 18446744073709551616) :
    CallsF Try.prog 71 [mR s a] w fun v w' => v = .tuple #[mR s (lg s a 10 0 0).2.2, .int .i64 (unzz (lg s a 10 0 0).2.1), .int .i64 (lg s a 10 0 0).1] ∧ Fr no w w' := by
  refine callsF Try.func71 rfl rfl (by decide) rfl ?_
  repeat (first
    | refine stepF_ok tabOk [] (m := 400) rfl ?_
    | refine stepF_ok tabOk [] (m := 16) rfl ?_
    | refine stepF_ok tabOk [] (m := 3) rfl ?_
    | refine stepF_ok tabOk [] (m := 0) rfl ?_
    | refine ev_load rfl rfl tabOk rfl rfl (by assumption) ?_
    | refine ev_loadB rfl rfl tabOk rfl rfl (by assumption) (by rfl) ?_
    | refine ev_loadAggB rfl rfl tabOk rfl rfl (by assumption) (by rfl) ?_
    | refine ev_arith rfl rfl rfl rfl rfl (by simp only [lowK, hiK]; omega) ?_
    | refine ev_rem rfl rfl rfl rfl (by omega) (by omega) ?_
    | refine ev_quo rfl rfl rfl rfl (by omega) (by omega) (by simp only [hiK]; omega) ?_
    | refine ev_index rfl rfl tabOk rfl rfl rfl (by omega) (by omega) ?_
    | refine ev_indexA rfl rfl tabOk rfl rfl rfl (by omega) (by omega) rfl ?_
    | refine ev_convB rfl rfl tabOk rfl rfl rfl rfl ?_
    | refine ev_conv rfl rfl tabOk rfl rfl rfl (by simp only [lowK, hiK]; omega) ?_)
  refine ev_box rfl rfl rfl (fun b w1 hb hB hf => ?_)
  refine ev_alloc rfl rfl inf58 (fun r w2 hr hR hf2 => ?_)
  have hf12 := hf.tr hf2
  have hB2 := hB.fr0 hf2
  have hrw : w.heap.size ≤ r := by have := hf.size; omega
  clear hB hf hf2
  repeat (first
    | refine stepF_ok tabOk [] (m := 400) rfl ?_
    | refine stepF_ok tabOk [] (m := 16) rfl ?_
    | refine stepF_ok tabOk [] (m := 3) rfl ?_
    | refine stepF_ok tabOk [] (m := 0) rfl ?_
    | refine ev_load rfl rfl tabOk rfl rfl (by assumption) ?_
    | refine ev_loadB rfl rfl tabOk rfl rfl (by assumption) (by rfl) ?_
    | refine ev_loadAggB rfl rfl tabOk rfl rfl (by assumption) (by rfl) ?_
    | refine ev_arith rfl rfl rfl rfl rfl (by simp only [lowK, hiK]; omega) ?_
    | refine ev_rem rfl rfl rfl rfl (by omega) (by omega) ?_
    | refine ev_quo rfl rfl rfl rfl (by omega) (by omega) (by simp only [hiK]; omega) ?_
    | refine ev_index rfl rfl tabOk rfl rfl rfl (by omega) (by omega) ?_
    | refine ev_indexA rfl rfl tabOk rfl rfl rfl (by omega) (by omega) rfl ?_
    | refine ev_convB rfl rfl tabOk rfl rfl rfl rfl ?_
    | refine ev_conv rfl rfl tabOk rfl rfl rfl (by simp only [lowK, hiK]; omega) ?_)
  refine ev_call rfl rfl rfl (refLong s a 10 1 _ ha hs (.inr ⟨rfl, rfl⟩)) (fun q w3 hq => ?_)
  obtain ⟨rfl, hf3⟩ := hq
  have hR3 := hR.fr0 hf3
  have hrlt := hR.lt
  clear hR hB2
  generalize lg s a 10 0 0 = G at *
  repeat (first
    | refine stepF_ok tabOk [] (m := 400) rfl ?_
    | refine stepF_ok tabOk [] (m := 16) rfl ?_
    | refine stepF_ok tabOk [] (m := 3) rfl ?_
    | refine stepF_ok tabOk [] (m := 0) rfl ?_
    | refine ev_load rfl rfl tabOk rfl rfl (by assumption) ?_
    | refine ev_loadB rfl rfl tabOk rfl rfl (by assumption) (by rfl) ?_
    | refine ev_loadAggB rfl rfl tabOk rfl rfl (by assumption) (by rfl) ?_
    | refine ev_arith rfl rfl rfl rfl rfl (by simp only [lowK, hiK]; omega) ?_
    | refine ev_rem rfl rfl rfl rfl (by omega) (by omega) ?_
    | refine ev_quo rfl rfl rfl rfl (by omega) (by omega) (by simp only [hiK]; omega) ?_
    | refine ev_index rfl rfl tabOk rfl rfl rfl (by omega) (by omega) ?_
    | refine ev_indexA rfl rfl tabOk rfl rfl rfl (by omega) (by omega) rfl ?_
    | refine ev_convB rfl rfl tabOk rfl rfl rfl rfl ?_
    | refine ev_conv rfl rfl tabOk rfl rfl rfl (by simp only [lowK, hiK]; omega) ?_)
  refine ev_alloc rfl rfl inf58 (fun c w4 hc hC hf4 => ?_)
  refine ev_storeAgg tabOk rfl rfl rfl rfl rfl rfl hC rfl (fun w5 hC5 hf5 => ?_)
  have hs3 := hf3.size
  have hR5 := (hR3.fr0 hf4).fr hf5 (fun e => by omega)
  have hf15 : Fr no w w5 := fresh_set ((hf12.tr hf3).tr hf4) (by have := hf12.size; omega) hf5
  clear hC hR3
  repeat (first
    | refine stepF_ok tabOk [] (m := 400) rfl ?_
    | refine stepF_ok tabOk [] (m := 16) rfl ?_
    | refine stepF_ok tabOk [] (m := 3) rfl ?_
    | refine stepF_ok tabOk [] (m := 0) rfl ?_
    | refine ev_load rfl rfl tabOk rfl rfl (by assumption) ?_
    | refine ev_loadB rfl rfl tabOk rfl rfl (by assumption) (by rfl) ?_
    | refine ev_loadAggB rfl rfl tabOk rfl rfl (by assumption) (by rfl) ?_
    | refine ev_arith rfl rfl rfl rfl rfl (by simp only [lowK, hiK]; omega) ?_
    | refine ev_rem rfl rfl rfl rfl (by omega) (by omega) ?_
    | refine ev_quo rfl rfl rfl rfl (by omega) (by omega) (by simp only [hiK]; omega) ?_
    | refine ev_index rfl rfl tabOk rfl rfl rfl (by omega) (by omega) ?_
    | refine ev_indexA rfl rfl tabOk rfl rfl rfl (by omega) (by omega) rfl ?_
    | refine ev_convB rfl rfl tabOk rfl rfl rfl rfl ?_
    | refine ev_conv rfl rfl tabOk rfl rfl rfl (by simp only [lowK, hiK]; omega) ?_)
  refine ev_condD rfl (fun h1 => ?_) (fun h1 => ?_)
  · have e : unzz G.2.1 = -((G.2.1 : Int) / 2) - 1 := by unfold unzz; rw [if_pos (by omega)]; omega
    repeat (first
      | refine stepF_ok tabOk [] (m := 400) rfl ?_
      | refine stepF_ok tabOk [] (m := 16) rfl ?_
      | refine stepF_ok tabOk [] (m := 3) rfl ?_
      | refine stepF_ok tabOk [] (m := 0) rfl ?_
      | refine ev_load rfl rfl tabOk rfl rfl (by assumption) ?_
      | refine ev_loadB rfl rfl tabOk rfl rfl (by assumption) (by rfl) ?_
      | refine ev_loadAggB rfl rfl tabOk rfl rfl (by assumption) (by rfl) ?_
      | refine ev_arith rfl rfl rfl rfl rfl (by simp only [lowK, hiK]; omega) ?_
      | refine ev_rem rfl rfl rfl rfl (by omega) (by omega) ?_
      | refine ev_quo rfl rfl rfl rfl (by omega) (by omega) (by simp only [hiK]; omega) ?_
      | refine ev_index rfl rfl tabOk rfl rfl rfl (by omega) (by omega) ?_
      | refine ev_indexA rfl rfl tabOk rfl rfl rfl (by omega) (by omega) rfl ?_
      | refine ev_convB rfl rfl tabOk rfl rfl rfl rfl ?_
      | refine ev_conv rfl rfl tabOk rfl rfl rfl (by simp only [lowK, hiK]; omega) ?_)
    rw [wrapK (k := .i64) (x := 0 - (G.2.1 : Int) / 2) (by simp only [lowK, hiK]; omega)]
    repeat (first
      | refine stepF_ok tabOk [] (m := 400) rfl ?_
      | refine stepF_ok tabOk [] (m := 16) rfl ?_
      | refine stepF_ok tabOk [] (m := 3) rfl ?_
      | refine stepF_ok tabOk [] (m := 0) rfl ?_
      | refine ev_load rfl rfl tabOk rfl rfl (by assumption) ?_
      | refine ev_loadB rfl rfl tabOk rfl rfl (by assumption) (by rfl) ?_
      | refine ev_loadAggB rfl rfl tabOk rfl rfl (by assumption) (by rfl) ?_
      | refine ev_arith rfl rfl rfl rfl rfl (by simp only [lowK, hiK]; omega) ?_
      | refine ev_rem rfl rfl rfl rfl (by omega) (by omega) ?_
      | refine ev_quo rfl rfl rfl rfl (by omega) (by omega) (by simp only [hiK]; omega) ?_
      | refine ev_index rfl rfl tabOk rfl rfl rfl (by omega) (by omega) ?_
      | refine ev_indexA rfl rfl tabOk rfl rfl rfl (by omega) (by omega) rfl ?_
      | refine ev_convB rfl rfl tabOk rfl rfl rfl rfl ?_
      | refine ev_conv rfl rfl tabOk rfl rfl rfl (by simp only [lowK, hiK]; omega) ?_)
    refine ev_storeAgg tabOk rfl rfl rfl rfl rfl rfl hR5 rfl (fun w6 hR6 hf6 => ?_)
    repeat (first
      | refine stepF_ok tabOk [] (m := 400) rfl ?_
      | refine stepF_ok tabOk [] (m := 16) rfl ?_
      | refine stepF_ok tabOk [] (m := 3) rfl ?_
      | refine stepF_ok tabOk [] (m := 0) rfl ?_
      | refine ev_load rfl rfl tabOk rfl rfl (by assumption) ?_
      | refine ev_loadB rfl rfl tabOk rfl rfl (by assumption) (by rfl) ?_
      | refine ev_loadAggB rfl rfl tabOk rfl rfl (by assumption) (by rfl) ?_
      | refine ev_arith rfl rfl rfl rfl rfl (by simp only [lowK, hiK]; omega) ?_
      | refine ev_rem rfl rfl rfl rfl (by omega) (by omega) ?_
      | refine ev_quo rfl rfl rfl rfl (by omega) (by omega) (by simp only [hiK]; omega) ?_
      | refine ev_index rfl rfl tabOk rfl rfl rfl (by omega) (by omega) ?_
      | refine ev_indexA rfl rfl tabOk rfl rfl rfl (by omega) (by omega) rfl ?_
      | refine ev_convB rfl rfl tabOk rfl rfl rfl rfl ?_
      | refine ev_conv rfl rfl tabOk rfl rfl rfl (by simp only [lowK, hiK]; omega) ?_)
    refine retG tabOk (.inr rfl) rfl [mR s G.2.2, .int .i64 (0 - (G.2.1 : Int) / 2 - 1), .int .i64 G.1] ⟨⟨_, rfl, .inl ⟨rfl, _, rfl, rfl, Cs.of_blk hR6⟩⟩, rfl, rfl, trivial⟩ ⟨?_, fresh_set hf15 hrw hf6⟩
    rw [e, show -((G.2.1 : Int) / 2) - 1 = 0 - (G.2.1 : Int) / 2 - 1 by omega]; rfl
  · have e : unzz G.2.1 = (G.2.1 : Int) / 2 := by unfold unzz; rw [if_neg (by omega)]; omega
    repeat (first
      | refine stepF_ok tabOk [] (m := 400) rfl ?_
      | refine stepF_ok tabOk [] (m := 16) rfl ?_
      | refine stepF_ok tabOk [] (m := 3) rfl ?_
      | refine stepF_ok tabOk [] (m := 0) rfl ?_
      | refine ev_load rfl rfl tabOk rfl rfl (by assumption) ?_
      | refine ev_loadB rfl rfl tabOk rfl rfl (by assumption) (by rfl) ?_
      | refine ev_loadAggB rfl rfl tabOk rfl rfl (by assumption) (by rfl) ?_
      | refine ev_arith rfl rfl rfl rfl rfl (by simp only [lowK, hiK]; omega) ?_
      | refine ev_rem rfl rfl rfl rfl (by omega) (by omega) ?_
      | refine ev_quo rfl rfl rfl rfl (by omega) (by omega) (by simp only [hiK]; omega) ?_
      | refine ev_index rfl rfl tabOk rfl rfl rfl (by omega) (by omega) ?_
      | refine ev_indexA rfl rfl tabOk rfl rfl rfl (by omega) (by omega) rfl ?_
      | refine ev_convB rfl rfl tabOk rfl rfl rfl rfl ?_
      | refine ev_conv rfl rfl tabOk rfl rfl rfl (by simp only [lowK, hiK]; omega) ?_)
    refine ev_storeAgg tabOk rfl rfl rfl rfl rfl rfl hR5 rfl (fun w6 hR6 hf6 => ?_)
    repeat (first
      | refine stepF_ok tabOk [] (m := 400) rfl ?_
      | refine stepF_ok tabOk [] (m := 16) rfl ?_
      | refine stepF_ok tabOk [] (m := 3) rfl ?_
      | refine stepF_ok tabOk [] (m := 0) rfl ?_
      | refine ev_load rfl rfl tabOk rfl rfl (by assumption) ?_
      | refine ev_loadB rfl rfl tabOk rfl rfl (by assumption) (by rfl) ?_
      | refine ev_loadAggB rfl rfl tabOk rfl rfl (by assumption) (by rfl) ?_
      | refine ev_arith rfl rfl rfl rfl rfl (by simp only [lowK, hiK]; omega) ?_
      | refine ev_rem rfl rfl rfl rfl (by omega) (by omega) ?_
      | refine ev_quo rfl rfl rfl rfl (by omega) (by omega) (by simp only [hiK]; omega) ?_
      | refine ev_index rfl rfl tabOk rfl rfl rfl (by omega) (by omega) ?_
      | refine ev_indexA rfl rfl tabOk rfl rfl rfl (by omega) (by omega) rfl ?_
      | refine ev_convB rfl rfl tabOk rfl rfl rfl rfl ?_
      | refine ev_conv rfl rfl tabOk rfl rfl rfl (by simp only [lowK, hiK]; omega) ?_)
    refine retG tabOk (.inr rfl) rfl [mR s G.2.2, .int .i64 ((G.2.1 : Int) / 2), .int .i64 G.1] ⟨⟨_, rfl, .inl ⟨rfl, _, rfl, rfl, Cs.of_blk hR6⟩⟩, rfl, rfl, trivial⟩ ⟨?_, fresh_set hf15 hrw hf6⟩
    rw [e]; rfl
end Go.Wk.Ytihjpjpellagiaa
