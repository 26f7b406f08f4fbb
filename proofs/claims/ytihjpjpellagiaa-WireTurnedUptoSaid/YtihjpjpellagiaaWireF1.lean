/-
  The walks of the wire package: short numbers written, the sum; the document's.
-/
import Derived.Test.YtihjpjpellagiaaWireF0
set_option linter.unusedVariables false
namespace Go.Wk.Ytihjpjpellagiaa
open Go Go.Wk Go.Proofs

theorem flat_u8 (x : Nat) (h : x < 256) : flatV [Value.int .u8 (x : Int)] = [UInt8.ofNat x].map bv := by
  have : (UInt8.ofNat x).toNat = x := by rw [UInt8.toNat_ofNat']; omega
  simp [flatV, Value.cells, bv, this]
theorem wrap8_nat (n : Nat) : IntKind.u8.wrap (n : Int) = ((n % 256 : Nat) : Int) := by rw [wrap_u8]; omega
theorem ofNat_mod (n : Nat) : UInt8.ofNat (n % 256) = UInt8.ofNat n := by
  apply UInt8.toNat_inj.1
  rw [UInt8.toNat_ofNat', UInt8.toNat_ofNat']; omega
theorem u8_toNat (x : Nat) (h : x < 256) : (UInt8.ofNat x).toNat = x := by rw [UInt8.toNat_ofNat']; omega

theorem wrShortU (p : Nat) (v : Value) (bs : List UInt8) (n : Nat) (w : World) (h : Wr w p v bs) (hs : bs.length ≤ 1000000000000) (hn : n < 18446744073709551616) :
    CallsF Try.prog 63 [.pointer (some ⟨p, 0, none⟩), .int .u64 n] w fun r w' => ∃ v', Wr w' p v' (bs ++ grB n) ∧ Fr (WS p v) w w' ∧ NB w v v' := by
  have hgl : (grB n).length ≤ 10 := grB_len 9 (by omega)
  refine callsF Try.func63 rfl rfl (by decide) rfl ?_
  repeat (first
    | refine stepF_ok tabOk [] (m := 400) rfl ?_
    | refine stepF_ok tabOk [] (m := 16) rfl ?_
    | refine stepF_ok tabOk [] (m := 3) rfl ?_
    | refine stepF_ok tabOk [] (m := 0) rfl ?_
    | refine ev_load rfl rfl tabOk rfl rfl (by assumption) ?_
    | refine ev_loadB rfl rfl tabOk rfl rfl (by assumption) (by rfl) ?_
    | refine ev_loadAggB rfl rfl tabOk rfl rfl (by assumption) (by rfl) ?_
    | refine ev_arith rfl rfl rfl rfl rfl (by simp only [lowK, hiK]; omega) ?_
    | refine ev_rem rfl rfl rfl rfl (by omega) (by omega) ?_
    | refine ev_quo rfl rfl rfl rfl (by omega) (by omega) (by simp only [hiK]; omega) ?_
    | refine ev_index rfl rfl tabOk rfl rfl rfl (by omega) (by omega) ?_
    | refine ev_indexA rfl rfl tabOk rfl rfl rfl (by omega) (by omega) rfl ?_
    | refine ev_convB rfl rfl tabOk rfl rfl rfl rfl ?_
    | refine ev_conv rfl rfl tabOk rfl rfl rfl (by simp only [lowK, hiK]; omega) ?_)
  refine ev_loop (α := Nat) (fun m => [(0, .pointer (some ⟨p, 0, none⟩)), (1, .int .u64 m)])
    (fun m w1 => m ≤ n ∧ ∃ v1 pre, pre ++ grB m = grB n ∧ Wr w1 p v1 (bs ++ pre) ∧ Fr (WS p v) w w1 ∧ NB w v v1) (fun m => m) n ⟨rfl, rfl, trivial⟩
    ⟨Nat.le_refl _, v, [], rfl, by simpa using h, Fr.refl _ _, NB.refl _ _⟩ ?_
  rintro m w1 ⟨hm, v1, pre, hpre, hw1, hf1, hn1⟩
  have c0 := hw1.c0
  have hpl : pre.length ≤ 10 := by have := congrArg List.length hpre; simp only [List.length_append] at this; omega
  repeat (first
    | refine stepF_ok tabOk [] (m := 400) rfl ?_
    | refine stepF_ok tabOk [] (m := 16) rfl ?_
    | refine stepF_ok tabOk [] (m := 3) rfl ?_
    | refine stepF_ok tabOk [] (m := 0) rfl ?_
    | refine ev_load rfl rfl tabOk rfl rfl (by assumption) ?_
    | refine ev_loadB rfl rfl tabOk rfl rfl (by assumption) (by rfl) ?_
    | refine ev_loadAggB rfl rfl tabOk rfl rfl (by assumption) (by rfl) ?_
    | refine ev_arith rfl rfl rfl rfl rfl (by simp only [lowK, hiK]; omega) ?_
    | refine ev_rem rfl rfl rfl rfl (by omega) (by omega) ?_
    | refine ev_quo rfl rfl rfl rfl (by omega) (by omega) (by simp only [hiK]; omega) ?_
    | refine ev_index rfl rfl tabOk rfl rfl rfl (by omega) (by omega) ?_
    | refine ev_indexA rfl rfl tabOk rfl rfl rfl (by omega) (by omega) rfl ?_
    | refine ev_convB rfl rfl tabOk rfl rfl rfl rfl ?_
    | refine ev_conv rfl rfl tabOk rfl rfl rfl (by simp only [lowK, hiK]; omega) ?_)
  refine ev_condD rfl (fun hlt => ?_) (fun hlt => ?_)
  · have hg := grB_big (n := m) (by omega)
    repeat (first
      | refine stepF_ok tabOk [] (m := 400) rfl ?_
      | refine stepF_ok tabOk [] (m := 16) rfl ?_
      | refine stepF_ok tabOk [] (m := 3) rfl ?_
      | refine stepF_ok tabOk [] (m := 0) rfl ?_
      | refine ev_load rfl rfl tabOk rfl rfl (by assumption) ?_
      | refine ev_loadB rfl rfl tabOk rfl rfl (by assumption) (by rfl) ?_
      | refine ev_loadAggB rfl rfl tabOk rfl rfl (by assumption) (by rfl) ?_
      | refine ev_arith rfl rfl rfl rfl rfl (by simp only [lowK, hiK]; omega) ?_
      | refine ev_rem rfl rfl rfl rfl (by omega) (by omega) ?_
      | refine ev_quo rfl rfl rfl rfl (by omega) (by omega) (by simp only [hiK]; omega) ?_
      | refine ev_index rfl rfl tabOk rfl rfl rfl (by omega) (by omega) ?_
      | refine ev_indexA rfl rfl tabOk rfl rfl rfl (by omega) (by omega) rfl ?_
      | refine ev_convB rfl rfl tabOk rfl rfl rfl rfl ?_
      | refine ev_conv rfl rfl tabOk rfl rfl rfl (by simp only [lowK, hiK]; omega) ?_)
    refine ev_convW rfl rfl tabOk rfl rfl rfl ?_
    have hq : bits .or .u8 (IntKind.u8.wrap (m : Int)) 128 = ((m % 128 + 128 : Nat) : Int) := by
      rw [wrap8_nat, show (128 : Int) = ((128 : Nat) : Int) from rfl, bits_or8 (by omega) (by omega), or128 (by omega)]
      congr 1; omega
    repeat (first
      | refine stepF_ok tabOk [] (m := 400) rfl ?_
      | refine stepF_ok tabOk [] (m := 16) rfl ?_
      | refine stepF_ok tabOk [] (m := 3) rfl ?_
      | refine stepF_ok tabOk [] (m := 0) rfl ?_
      | refine ev_load rfl rfl tabOk rfl rfl (by assumption) ?_
      | refine ev_loadB rfl rfl tabOk rfl rfl (by assumption) (by rfl) ?_
      | refine ev_loadAggB rfl rfl tabOk rfl rfl (by assumption) (by rfl) ?_
      | refine ev_arith rfl rfl rfl rfl rfl (by simp only [lowK, hiK]; omega) ?_
      | refine ev_rem rfl rfl rfl rfl (by omega) (by omega) ?_
      | refine ev_quo rfl rfl rfl rfl (by omega) (by omega) (by simp only [hiK]; omega) ?_
      | refine ev_index rfl rfl tabOk rfl rfl rfl (by omega) (by omega) ?_
      | refine ev_indexA rfl rfl tabOk rfl rfl rfl (by omega) (by omega) rfl ?_
      | refine ev_convB rfl rfl tabOk rfl rfl rfl rfl ?_
      | refine ev_conv rfl rfl tabOk rfl rfl rfl (by simp only [lowK, hiK]; omega) ?_)
    rw [hq]
    refine ev_append1 tabOk rfl rfl (fun _ => rfl) rfl rfl inf5 rfl (by omega) (fun _ => rfl) rfl rfl (by simp [Value.cells]) (by simp [flatV, Value.cells, Value.oneCell']) rfl hw1.2.1 (by simp only [List.length_append]; omega) (fun v2 w2 q ho hf hn => ?_)
    repeat (first
      | refine stepF_ok tabOk [] (m := 400) rfl ?_
      | refine stepF_ok tabOk [] (m := 16) rfl ?_
      | refine stepF_ok tabOk [] (m := 3) rfl ?_
      | refine stepF_ok tabOk [] (m := 0) rfl ?_
      | refine ev_load rfl rfl tabOk rfl rfl (by assumption) ?_
      | refine ev_loadB rfl rfl tabOk rfl rfl (by assumption) (by rfl) ?_
      | refine ev_loadAggB rfl rfl tabOk rfl rfl (by assumption) (by rfl) ?_
      | refine ev_arith rfl rfl rfl rfl rfl (by simp only [lowK, hiK]; omega) ?_
      | refine ev_rem rfl rfl rfl rfl (by omega) (by omega) ?_
      | refine ev_quo rfl rfl rfl rfl (by omega) (by omega) (by simp only [hiK]; omega) ?_
      | refine ev_index rfl rfl tabOk rfl rfl rfl (by omega) (by omega) ?_
      | refine ev_indexA rfl rfl tabOk rfl rfl rfl (by omega) (by omega) rfl ?_
      | refine ev_convB rfl rfl tabOk rfl rfl rfl rfl ?_
      | refine ev_conv rfl rfl tabOk rfl rfl rfl (by simp only [lowK, hiK]; omega) ?_)
    refine ev_store tabOk rfl rfl rfl rfl rfl ?_ (hw1.blk hf) rfl (fun w3 hb hf2 => ?_)
    · rcases ho.2 with ⟨rfl, _⟩ | ⟨g, cap, cur, rfl, _⟩ <;> rfl
    rw [flat_u8 _ (by omega)] at ho
    obtain ⟨h1, h2⟩ := hw1.put (cs := [UInt8.ofNat (m % 128 + 128)]) ho (by simp only [List.length_append, List.length_singleton]) (by simp) hf hn hb hf2
    repeat (first
      | refine stepF_ok tabOk [] (m := 400) rfl ?_
      | refine stepF_ok tabOk [] (m := 16) rfl ?_
      | refine stepF_ok tabOk [] (m := 3) rfl ?_
      | refine stepF_ok tabOk [] (m := 0) rfl ?_
      | refine ev_load rfl rfl tabOk rfl rfl (by assumption) ?_
      | refine ev_loadB rfl rfl tabOk rfl rfl (by assumption) (by rfl) ?_
      | refine ev_loadAggB rfl rfl tabOk rfl rfl (by assumption) (by rfl) ?_
      | refine ev_arith rfl rfl rfl rfl rfl (by simp only [lowK, hiK]; omega) ?_
      | refine ev_rem rfl rfl rfl rfl (by omega) (by omega) ?_
      | refine ev_quo rfl rfl rfl rfl (by omega) (by omega) (by simp only [hiK]; omega) ?_
      | refine ev_index rfl rfl tabOk rfl rfl rfl (by omega) (by omega) ?_
      | refine ev_indexA rfl rfl tabOk rfl rfl rfl (by omega) (by omega) rfl ?_
      | refine ev_convB rfl rfl tabOk rfl rfl rfl rfl ?_
      | refine ev_conv rfl rfl tabOk rfl rfl rfl (by simp only [lowK, hiK]; omega) ?_)
    refine ev_next (m / 128) (by omega) ⟨by omega, v2, pre ++ [UInt8.ofNat (m % 128 + 128)], ?_, by rw [← List.append_assoc]; exact h1, hf1.trans h2 (WS_sub hn1), hn1.trans hn hf1.size⟩ ⟨rfl, ?_, trivial⟩
    · rw [List.append_assoc, ← hpre, hg]; rfl
    · show some (Value.int .u64 ((m : Int).fdiv (2 ^ 7))) = _
      rw [Int.fdiv_eq_ediv_of_nonneg _ (by omega)]; rfl
  · have hg := grB_small (n := m) (by omega)
    repeat (first
      | refine stepF_ok tabOk [] (m := 400) rfl ?_
      | refine stepF_ok tabOk [] (m := 16) rfl ?_
      | refine stepF_ok tabOk [] (m := 3) rfl ?_
      | refine stepF_ok tabOk [] (m := 0) rfl ?_
      | refine ev_load rfl rfl tabOk rfl rfl (by assumption) ?_
      | refine ev_loadB rfl rfl tabOk rfl rfl (by assumption) (by rfl) ?_
      | refine ev_loadAggB rfl rfl tabOk rfl rfl (by assumption) (by rfl) ?_
      | refine ev_arith rfl rfl rfl rfl rfl (by simp only [lowK, hiK]; omega) ?_
      | refine ev_rem rfl rfl rfl rfl (by omega) (by omega) ?_
      | refine ev_quo rfl rfl rfl rfl (by omega) (by omega) (by simp only [hiK]; omega) ?_
      | refine ev_index rfl rfl tabOk rfl rfl rfl (by omega) (by omega) ?_
      | refine ev_indexA rfl rfl tabOk rfl rfl rfl (by omega) (by omega) rfl ?_
      | refine ev_convB rfl rfl tabOk rfl rfl rfl rfl ?_
      | refine ev_conv rfl rfl tabOk rfl rfl rfl (by simp only [lowK, hiK]; omega) ?_)
    refine ev_append1 tabOk rfl rfl (fun _ => rfl) rfl rfl inf5 rfl (by omega) (fun _ => rfl) rfl rfl (by simp [Value.cells]) (by simp [flatV, Value.cells, Value.oneCell']) rfl hw1.2.1 (by simp only [List.length_append]; omega) (fun v2 w2 q ho hf hn => ?_)
    repeat (first
      | refine stepF_ok tabOk [] (m := 400) rfl ?_
      | refine stepF_ok tabOk [] (m := 16) rfl ?_
      | refine stepF_ok tabOk [] (m := 3) rfl ?_
      | refine stepF_ok tabOk [] (m := 0) rfl ?_
      | refine ev_load rfl rfl tabOk rfl rfl (by assumption) ?_
      | refine ev_loadB rfl rfl tabOk rfl rfl (by assumption) (by rfl) ?_
      | refine ev_loadAggB rfl rfl tabOk rfl rfl (by assumption) (by rfl) ?_
      | refine ev_arith rfl rfl rfl rfl rfl (by simp only [lowK, hiK]; omega) ?_
      | refine ev_rem rfl rfl rfl rfl (by omega) (by omega) ?_
      | refine ev_quo rfl rfl rfl rfl (by omega) (by omega) (by simp only [hiK]; omega) ?_
      | refine ev_index rfl rfl tabOk rfl rfl rfl (by omega) (by omega) ?_
      | refine ev_indexA rfl rfl tabOk rfl rfl rfl (by omega) (by omega) rfl ?_
      | refine ev_convB rfl rfl tabOk rfl rfl rfl rfl ?_
      | refine ev_conv rfl rfl tabOk rfl rfl rfl (by simp only [lowK, hiK]; omega) ?_)
    refine ev_store tabOk rfl rfl rfl rfl rfl ?_ (hw1.blk hf) rfl (fun w3 hb hf2 => ?_)
    · rcases ho.2 with ⟨rfl, _⟩ | ⟨g, cap, cur, rfl, _⟩ <;> rfl
    rw [flat_u8 _ (by omega)] at ho
    obtain ⟨h1, h2⟩ := hw1.put (cs := [UInt8.ofNat m]) ho (by simp only [List.length_append, List.length_singleton]) (by simp) hf hn hb hf2
    repeat (first
      | refine stepF_ok tabOk [] (m := 400) rfl ?_
      | refine stepF_ok tabOk [] (m := 16) rfl ?_
      | refine stepF_ok tabOk [] (m := 3) rfl ?_
      | refine stepF_ok tabOk [] (m := 0) rfl ?_
      | refine ev_load rfl rfl tabOk rfl rfl (by assumption) ?_
      | refine ev_loadB rfl rfl tabOk rfl rfl (by assumption) (by rfl) ?_
      | refine ev_loadAggB rfl rfl tabOk rfl rfl (by assumption) (by rfl) ?_
      | refine ev_arith rfl rfl rfl rfl rfl (by simp only [lowK, hiK]; omega) ?_
      | refine ev_rem rfl rfl rfl rfl (by omega) (by omega) ?_
      | refine ev_quo rfl rfl rfl rfl (by omega) (by omega) (by simp only [hiK]; omega) ?_
      | refine ev_index rfl rfl tabOk rfl rfl rfl (by omega) (by omega) ?_
      | refine ev_indexA rfl rfl tabOk rfl rfl rfl (by omega) (by omega) rfl ?_
      | refine ev_convB rfl rfl tabOk rfl rfl rfl rfl ?_
      | refine ev_conv rfl rfl tabOk rfl rfl rfl (by simp only [lowK, hiK]; omega) ?_)
    refine ret0 (.inl rfl) rfl ⟨v2, ?_, hf1.trans h2 (WS_sub hn1), hn1.trans hn hf1.size⟩
    rw [← hpre, hg, ← List.append_assoc]; exact h1

theorem wrShort (p : Nat) (v : Value) (bs : List UInt8) (n : Int) (w : World) (h : Wr w p v bs) (hs : bs.length ≤ 1000000000000) (hn : n ≤ 9223372036854775807) :
    CallsF Try.prog 42 [.pointer (some ⟨p, 0, none⟩), .int .i64 n] w fun r w' => r = .int .i64 (shE n) ∧ ∃ v', Wr w' p v' (bs ++ shB n) ∧ Fr (WS p v) w w' ∧ NB w v v' := by
  refine callsF Try.func42 rfl rfl (by decide) rfl ?_
  repeat (first
    | refine stepF_ok tabOk [] (m := 400) rfl ?_
    | refine stepF_ok tabOk [] (m := 16) rfl ?_
    | refine stepF_ok tabOk [] (m := 3) rfl ?_
    | refine stepF_ok tabOk [] (m := 0) rfl ?_
    | refine ev_load rfl rfl tabOk rfl rfl (by assumption) ?_
    | refine ev_loadB rfl rfl tabOk rfl rfl (by assumption) (by rfl) ?_
    | refine ev_loadAggB rfl rfl tabOk rfl rfl (by assumption) (by rfl) ?_
    | refine ev_arith rfl rfl rfl rfl rfl (by simp only [lowK, hiK]; omega) ?_
    | refine ev_rem rfl rfl rfl rfl (by omega) (by omega) ?_
    | refine ev_quo rfl rfl rfl rfl (by omega) (by omega) (by simp only [hiK]; omega) ?_
    | refine ev_index rfl rfl tabOk rfl rfl rfl (by omega) (by omega) ?_
    | refine ev_indexA rfl rfl tabOk rfl rfl rfl (by omega) (by omega) rfl ?_
    | refine ev_convB rfl rfl tabOk rfl rfl rfl rfl ?_
    | refine ev_conv rfl rfl tabOk rfl rfl rfl (by simp only [lowK, hiK]; omega) ?_)
  refine ev_condD rfl (fun h0 => ?_) (fun h0 => ?_)
  · repeat (first
      | refine stepF_ok tabOk [] (m := 400) rfl ?_
      | refine stepF_ok tabOk [] (m := 16) rfl ?_
      | refine stepF_ok tabOk [] (m := 3) rfl ?_
      | refine stepF_ok tabOk [] (m := 0) rfl ?_
      | refine ev_load rfl rfl tabOk rfl rfl (by assumption) ?_
      | refine ev_loadB rfl rfl tabOk rfl rfl (by assumption) (by rfl) ?_
      | refine ev_loadAggB rfl rfl tabOk rfl rfl (by assumption) (by rfl) ?_
      | refine ev_arith rfl rfl rfl rfl rfl (by simp only [lowK, hiK]; omega) ?_
      | refine ev_rem rfl rfl rfl rfl (by omega) (by omega) ?_
      | refine ev_quo rfl rfl rfl rfl (by omega) (by omega) (by simp only [hiK]; omega) ?_
      | refine ev_index rfl rfl tabOk rfl rfl rfl (by omega) (by omega) ?_
      | refine ev_indexA rfl rfl tabOk rfl rfl rfl (by omega) (by omega) rfl ?_
      | refine ev_convB rfl rfl tabOk rfl rfl rfl rfl ?_
      | refine ev_conv rfl rfl tabOk rfl rfl rfl (by simp only [lowK, hiK]; omega) ?_)
    refine ret1 (.inr rfl) rfl rfl ⟨by unfold shE; rw [if_pos h0], v, by unfold shB; rw [if_pos h0]; simpa using h, Fr.refl _ _, NB.refl _ _⟩
  · repeat (first
      | refine stepF_ok tabOk [] (m := 400) rfl ?_
      | refine stepF_ok tabOk [] (m := 16) rfl ?_
      | refine stepF_ok tabOk [] (m := 3) rfl ?_
      | refine stepF_ok tabOk [] (m := 0) rfl ?_
      | refine ev_load rfl rfl tabOk rfl rfl (by assumption) ?_
      | refine ev_loadB rfl rfl tabOk rfl rfl (by assumption) (by rfl) ?_
      | refine ev_loadAggB rfl rfl tabOk rfl rfl (by assumption) (by rfl) ?_
      | refine ev_arith rfl rfl rfl rfl rfl (by simp only [lowK, hiK]; omega) ?_
      | refine ev_rem rfl rfl rfl rfl (by omega) (by omega) ?_
      | refine ev_quo rfl rfl rfl rfl (by omega) (by omega) (by simp only [hiK]; omega) ?_
      | refine ev_index rfl rfl tabOk rfl rfl rfl (by omega) (by omega) ?_
      | refine ev_indexA rfl rfl tabOk rfl rfl rfl (by omega) (by omega) rfl ?_
      | refine ev_convB rfl rfl tabOk rfl rfl rfl rfl ?_
      | refine ev_conv rfl rfl tabOk rfl rfl rfl (by simp only [lowK, hiK]; omega) ?_)
    obtain ⟨m, rfl⟩ := Int.eq_ofNat_of_zero_le (show 0 ≤ n by omega)
    refine ev_call rfl rfl rfl (wrShortU p v bs m w h hs (by omega)) (fun r w' hr => ?_)
    repeat (first
      | refine stepF_ok tabOk [] (m := 400) rfl ?_
      | refine stepF_ok tabOk [] (m := 16) rfl ?_
      | refine stepF_ok tabOk [] (m := 3) rfl ?_
      | refine stepF_ok tabOk [] (m := 0) rfl ?_
      | refine ev_load rfl rfl tabOk rfl rfl (by assumption) ?_
      | refine ev_loadB rfl rfl tabOk rfl rfl (by assumption) (by rfl) ?_
      | refine ev_loadAggB rfl rfl tabOk rfl rfl (by assumption) (by rfl) ?_
      | refine ev_arith rfl rfl rfl rfl rfl (by simp only [lowK, hiK]; omega) ?_
      | refine ev_rem rfl rfl rfl rfl (by omega) (by omega) ?_
      | refine ev_quo rfl rfl rfl rfl (by omega) (by omega) (by simp only [hiK]; omega) ?_
      | refine ev_index rfl rfl tabOk rfl rfl rfl (by omega) (by omega) ?_
      | refine ev_indexA rfl rfl tabOk rfl rfl rfl (by omega) (by omega) rfl ?_
      | refine ev_convB rfl rfl tabOk rfl rfl rfl rfl ?_
      | refine ev_conv rfl rfl tabOk rfl rfl rfl (by simp only [lowK, hiK]; omega) ?_)
    exact ret1 (.inr rfl) rfl rfl ⟨by unfold shE; rw [if_neg h0], by unfold shB; rw [if_neg h0]; exact hr⟩

theorem shl1_zz {n : Int} (h1 : -9223372036854775808 ≤ n) (h2 : n ≤ 9223372036854775807) :
    bits .xor .u64 (IntKind.u64.wrap (IntKind.u64.wrap n * 2 ^ 1)) (IntKind.u64.wrap (n.fdiv (2 ^ 63))) = ((zz n : Nat) : Int) := by
  have hw : ∀ x : Int, IntKind.u64.wrap x = x % 18446744073709551616 := fun x => by simp [IntKind.wrap, IntKind.signed, IntKind.bits]
  have e63 : (2 : Int) ^ 63 = 9223372036854775808 := by decide
  have e1 : (2 : Int) ^ 1 = 2 := by decide
  rw [hw, hw, hw, e63, e1, Int.fdiv_eq_ediv_of_nonneg _ (by omega)]
  unfold zz
  by_cases h : n < 0
  · rw [if_pos h]
    have a1 : n % 18446744073709551616 * 2 % 18446744073709551616 = (((18446744073709551616 + 2 * n).toNat : Nat) : Int) := by omega
    have a2 : n / 9223372036854775808 % 18446744073709551616 = ((18446744073709551615 : Nat) : Int) := by omega
    rw [a1, a2, bits_xor64 (by omega) (by omega)]
    have hb : (18446744073709551616 + 2 * n).toNat ^^^ 18446744073709551615 = 18446744073709551615 - (18446744073709551616 + 2 * n).toNat := by
      have := BitVec.toNat_not (x := BitVec.ofNat 64 (18446744073709551616 + 2 * n).toNat)
      rw [← BitVec.xor_allOnes, BitVec.toNat_xor, BitVec.toNat_ofNat, BitVec.toNat_allOnes] at this
      rw [Nat.mod_eq_of_lt (by omega)] at this
      exact this
    rw [hb]
    omega
  · rw [if_neg h]
    have a1 : n % 18446744073709551616 * 2 % 18446744073709551616 = (((2 * n).toNat : Nat) : Int) := by omega
    have a2 : n / 9223372036854775808 % 18446744073709551616 = ((0 : Nat) : Int) := by omega
    rw [a1, a2, bits_xor64 (by omega) (by omega), Nat.xor_zero]
theorem zz_lt {n : Int} (h1 : -9223372036854775808 ≤ n) (h2 : n ≤ 9223372036854775807) : zz n < 18446744073709551616 := by unfold zz; split <;> omega

theorem wrSigned (p : Nat) (v : Value) (bs : List UInt8) (n : Int) (w : World) (h : Wr w p v bs) (hs : bs.length ≤ 1000000000000) (h1 : -9223372036854775808 ≤ n) (h2 : n ≤ 9223372036854775807) :
    CallsF Try.prog 41 [.pointer (some ⟨p, 0, none⟩), .int .i64 n] w fun r w' => ∃ v', Wr w' p v' (bs ++ grB (zz n)) ∧ Fr (WS p v) w w' ∧ NB w v v' := by
  refine callsF Try.func41 rfl rfl (by decide) rfl ?_
  repeat (first
    | refine stepF_ok tabOk [] (m := 400) rfl ?_
    | refine stepF_ok tabOk [] (m := 16) rfl ?_
    | refine stepF_ok tabOk [] (m := 3) rfl ?_
    | refine stepF_ok tabOk [] (m := 0) rfl ?_
    | refine ev_load rfl rfl tabOk rfl rfl (by assumption) ?_
    | refine ev_loadB rfl rfl tabOk rfl rfl (by assumption) (by rfl) ?_
    | refine ev_loadAggB rfl rfl tabOk rfl rfl (by assumption) (by rfl) ?_
    | refine ev_arith rfl rfl rfl rfl rfl (by simp only [lowK, hiK]; omega) ?_
    | refine ev_rem rfl rfl rfl rfl (by omega) (by omega) ?_
    | refine ev_quo rfl rfl rfl rfl (by omega) (by omega) (by simp only [hiK]; omega) ?_
    | refine ev_index rfl rfl tabOk rfl rfl rfl (by omega) (by omega) ?_
    | refine ev_indexA rfl rfl tabOk rfl rfl rfl (by omega) (by omega) rfl ?_
    | refine ev_convB rfl rfl tabOk rfl rfl rfl rfl ?_
    | refine ev_conv rfl rfl tabOk rfl rfl rfl (by simp only [lowK, hiK]; omega) ?_)
  refine ev_convW rfl rfl tabOk rfl rfl rfl ?_
  repeat (first
    | refine stepF_ok tabOk [] (m := 400) rfl ?_
    | refine stepF_ok tabOk [] (m := 16) rfl ?_
    | refine stepF_ok tabOk [] (m := 3) rfl ?_
    | refine stepF_ok tabOk [] (m := 0) rfl ?_
    | refine ev_load rfl rfl tabOk rfl rfl (by assumption) ?_
    | refine ev_loadB rfl rfl tabOk rfl rfl (by assumption) (by rfl) ?_
    | refine ev_loadAggB rfl rfl tabOk rfl rfl (by assumption) (by rfl) ?_
    | refine ev_arith rfl rfl rfl rfl rfl (by simp only [lowK, hiK]; omega) ?_
    | refine ev_rem rfl rfl rfl rfl (by omega) (by omega) ?_
    | refine ev_quo rfl rfl rfl rfl (by omega) (by omega) (by simp only [hiK]; omega) ?_
    | refine ev_index rfl rfl tabOk rfl rfl rfl (by omega) (by omega) ?_
    | refine ev_indexA rfl rfl tabOk rfl rfl rfl (by omega) (by omega) rfl ?_
    | refine ev_convB rfl rfl tabOk rfl rfl rfl rfl ?_
    | refine ev_conv rfl rfl tabOk rfl rfl rfl (by simp only [lowK, hiK]; omega) ?_)
  refine ev_convW rfl rfl tabOk rfl rfl rfl ?_
  repeat (first
    | refine stepF_ok tabOk [] (m := 400) rfl ?_
    | refine stepF_ok tabOk [] (m := 16) rfl ?_
    | refine stepF_ok tabOk [] (m := 3) rfl ?_
    | refine stepF_ok tabOk [] (m := 0) rfl ?_
    | refine ev_load rfl rfl tabOk rfl rfl (by assumption) ?_
    | refine ev_loadB rfl rfl tabOk rfl rfl (by assumption) (by rfl) ?_
    | refine ev_loadAggB rfl rfl tabOk rfl rfl (by assumption) (by rfl) ?_
    | refine ev_arith rfl rfl rfl rfl rfl (by simp only [lowK, hiK]; omega) ?_
    | refine ev_rem rfl rfl rfl rfl (by omega) (by omega) ?_
    | refine ev_quo rfl rfl rfl rfl (by omega) (by omega) (by simp only [hiK]; omega) ?_
    | refine ev_index rfl rfl tabOk rfl rfl rfl (by omega) (by omega) ?_
    | refine ev_indexA rfl rfl tabOk rfl rfl rfl (by omega) (by omega) rfl ?_
    | refine ev_convB rfl rfl tabOk rfl rfl rfl rfl ?_
    | refine ev_conv rfl rfl tabOk rfl rfl rfl (by simp only [lowK, hiK]; omega) ?_)
  rw [show bits .xor .u64 _ _ = _ from shl1_zz h1 h2]
  refine ev_call rfl rfl rfl (wrShortU p v bs (zz n) w h hs (zz_lt h1 h2)) (fun r w' hr => ?_)
  repeat (first
    | refine stepF_ok tabOk [] (m := 400) rfl ?_
    | refine stepF_ok tabOk [] (m := 16) rfl ?_
    | refine stepF_ok tabOk [] (m := 3) rfl ?_
    | refine stepF_ok tabOk [] (m := 0) rfl ?_
    | refine ev_load rfl rfl tabOk rfl rfl (by assumption) ?_
    | refine ev_loadB rfl rfl tabOk rfl rfl (by assumption) (by rfl) ?_
    | refine ev_loadAggB rfl rfl tabOk rfl rfl (by assumption) (by rfl) ?_
    | refine ev_arith rfl rfl rfl rfl rfl (by simp only [lowK, hiK]; omega) ?_
    | refine ev_rem rfl rfl rfl rfl (by omega) (by omega) ?_
    | refine ev_quo rfl rfl rfl rfl (by omega) (by omega) (by simp only [hiK]; omega) ?_
    | refine ev_index rfl rfl tabOk rfl rfl rfl (by omega) (by omega) ?_
    | refine ev_indexA rfl rfl tabOk rfl rfl rfl (by omega) (by omega) rfl ?_
    | refine ev_convB rfl rfl tabOk rfl rfl rfl rfl ?_
    | refine ev_conv rfl rfl tabOk rfl rfl rfl (by simp only [lowK, hiK]; omega) ?_)
  exact ret0 (.inl rfl) rfl hr

theorem wrap32_nat (n : Nat) : IntKind.u32.wrap (n : Int) = ((n % 4294967296 : Nat) : Int) := by
  simp [IntKind.wrap, IntKind.signed, IntKind.bits]

theorem wCrc (s : List UInt8) (w : World) (hs : s.length ≤ 9223372036854775806) : CallsF Try.prog 51 [.string (sOf s)] w fun v w' => v = .int .u32 (crc s) ∧ w' = w := by
  refine callsF Try.func51 rfl rfl (by decide) rfl ?_
  repeat (first
    | refine stepF_ok tabOk [] (m := 400) rfl ?_
    | refine stepF_ok tabOk [] (m := 16) rfl ?_
    | refine stepF_ok tabOk [] (m := 3) rfl ?_
    | refine stepF_ok tabOk [] (m := 0) rfl ?_
    | refine ev_load rfl rfl tabOk rfl rfl (by assumption) ?_
    | refine ev_loadB rfl rfl tabOk rfl rfl (by assumption) (by rfl) ?_
    | refine ev_loadAggB rfl rfl tabOk rfl rfl (by assumption) (by rfl) ?_
    | refine ev_arith rfl rfl rfl rfl rfl (by simp only [lowK, hiK]; omega) ?_
    | refine ev_rem rfl rfl rfl rfl (by omega) (by omega) ?_
    | refine ev_quo rfl rfl rfl rfl (by omega) (by omega) (by simp only [hiK]; omega) ?_
    | refine ev_index rfl rfl tabOk rfl rfl rfl (by omega) (by omega) ?_
    | refine ev_indexA rfl rfl tabOk rfl rfl rfl (by omega) (by omega) rfl ?_
    | refine ev_convB rfl rfl tabOk rfl rfl rfl rfl ?_
    | refine ev_conv rfl rfl tabOk rfl rfl rfl (by simp only [lowK, hiK]; omega) ?_)
  refine ev_loop (α := Nat) (fun k => [(0, .string (sOf s)), (3, .int .u32 (crcL (s.take k))), (7, .int .i64 (s.length : Nat)), (8, .int .i64 k)]) (fun k w' => k ≤ s.length ∧ w' = w) (fun k => s.length - k) 0 ⟨rfl, rfl, rfl, rfl, trivial⟩ ⟨Nat.zero_le _, rfl⟩ ?_
  rintro k w' ⟨hk, rfl⟩
  have hlt0 := crcL_lt (s.take k)
  repeat (first
    | refine stepF_ok tabOk [] (m := 400) rfl ?_
    | refine stepF_ok tabOk [] (m := 16) rfl ?_
    | refine stepF_ok tabOk [] (m := 3) rfl ?_
    | refine stepF_ok tabOk [] (m := 0) rfl ?_
    | refine ev_load rfl rfl tabOk rfl rfl (by assumption) ?_
    | refine ev_loadB rfl rfl tabOk rfl rfl (by assumption) (by rfl) ?_
    | refine ev_loadAggB rfl rfl tabOk rfl rfl (by assumption) (by rfl) ?_
    | refine ev_arith rfl rfl rfl rfl rfl (by simp only [lowK, hiK]; omega) ?_
    | refine ev_rem rfl rfl rfl rfl (by omega) (by omega) ?_
    | refine ev_quo rfl rfl rfl rfl (by omega) (by omega) (by simp only [hiK]; omega) ?_
    | refine ev_index rfl rfl tabOk rfl rfl rfl (by omega) (by omega) ?_
    | refine ev_indexA rfl rfl tabOk rfl rfl rfl (by omega) (by omega) rfl ?_
    | refine ev_convB rfl rfl tabOk rfl rfl rfl rfl ?_
    | refine ev_conv rfl rfl tabOk rfl rfl rfl (by simp only [lowK, hiK]; omega) ?_)
  refine ev_condD rfl (fun h => ?_) (fun h => ?_)
  · repeat (first
      | refine stepF_ok tabOk [] (m := 400) rfl ?_
      | refine stepF_ok tabOk [] (m := 16) rfl ?_
      | refine stepF_ok tabOk [] (m := 3) rfl ?_
      | refine stepF_ok tabOk [] (m := 0) rfl ?_
      | refine ev_load rfl rfl tabOk rfl rfl (by assumption) ?_
      | refine ev_loadB rfl rfl tabOk rfl rfl (by assumption) (by rfl) ?_
      | refine ev_loadAggB rfl rfl tabOk rfl rfl (by assumption) (by rfl) ?_
      | refine ev_arith rfl rfl rfl rfl rfl (by simp only [lowK, hiK]; omega) ?_
      | refine ev_rem rfl rfl rfl rfl (by omega) (by omega) ?_
      | refine ev_quo rfl rfl rfl rfl (by omega) (by omega) (by simp only [hiK]; omega) ?_
      | refine ev_index rfl rfl tabOk rfl rfl rfl (by omega) (by omega) ?_
      | refine ev_indexA rfl rfl tabOk rfl rfl rfl (by omega) (by omega) rfl ?_
      | refine ev_convB rfl rfl tabOk rfl rfl rfl rfl ?_
      | refine ev_conv rfl rfl tabOk rfl rfl rfl (by simp only [lowK, hiK]; omega) ?_)
    have hb := (s.getD k 0).toNat_lt
    rw [Int.toNat_natCast, bits_xor32 hlt0 (by omega)]
    have hx := xorb_lt (s.getD k 0) hlt0
    repeat (first
      | refine stepF_ok tabOk [] (m := 400) rfl ?_
      | refine stepF_ok tabOk [] (m := 16) rfl ?_
      | refine stepF_ok tabOk [] (m := 3) rfl ?_
      | refine stepF_ok tabOk [] (m := 0) rfl ?_
      | refine ev_load rfl rfl tabOk rfl rfl (by assumption) ?_
      | refine ev_loadB rfl rfl tabOk rfl rfl (by assumption) (by rfl) ?_
      | refine ev_loadAggB rfl rfl tabOk rfl rfl (by assumption) (by rfl) ?_
      | refine ev_arith rfl rfl rfl rfl rfl (by simp only [lowK, hiK]; omega) ?_
      | refine ev_rem rfl rfl rfl rfl (by omega) (by omega) ?_
      | refine ev_quo rfl rfl rfl rfl (by omega) (by omega) (by simp only [hiK]; omega) ?_
      | refine ev_index rfl rfl tabOk rfl rfl rfl (by omega) (by omega) ?_
      | refine ev_indexA rfl rfl tabOk rfl rfl rfl (by omega) (by omega) rfl ?_
      | refine ev_convB rfl rfl tabOk rfl rfl rfl rfl ?_
      | refine ev_conv rfl rfl tabOk rfl rfl rfl (by simp only [lowK, hiK]; omega) ?_)
    refine ev_loop (α := Nat) (fun j => [(0, .string (sOf s)), (3, .int .u32 (crcK j (crcL (s.take k) ^^^ (s.getD k 0).toNat))), (7, .int .i64 (s.length : Nat)), (8, .int .i64 k), (17, .int .i64 j)]) (fun j w2 => j ≤ 8 ∧ w2 = w') (fun j => 8 - j) 0 ⟨rfl, rfl, rfl, rfl, rfl, trivial⟩ ⟨Nat.zero_le _, rfl⟩ ?_
    rintro j w2 ⟨hj, rfl⟩
    have hc := crcK_lt j hx
    repeat (first
      | refine stepF_ok tabOk [] (m := 400) rfl ?_
      | refine stepF_ok tabOk [] (m := 16) rfl ?_
      | refine stepF_ok tabOk [] (m := 3) rfl ?_
      | refine stepF_ok tabOk [] (m := 0) rfl ?_
      | refine ev_load rfl rfl tabOk rfl rfl (by assumption) ?_
      | refine ev_loadB rfl rfl tabOk rfl rfl (by assumption) (by rfl) ?_
      | refine ev_loadAggB rfl rfl tabOk rfl rfl (by assumption) (by rfl) ?_
      | refine ev_arith rfl rfl rfl rfl rfl (by simp only [lowK, hiK]; omega) ?_
      | refine ev_rem rfl rfl rfl rfl (by omega) (by omega) ?_
      | refine ev_quo rfl rfl rfl rfl (by omega) (by omega) (by simp only [hiK]; omega) ?_
      | refine ev_index rfl rfl tabOk rfl rfl rfl (by omega) (by omega) ?_
      | refine ev_indexA rfl rfl tabOk rfl rfl rfl (by omega) (by omega) rfl ?_
      | refine ev_convB rfl rfl tabOk rfl rfl rfl rfl ?_
      | refine ev_conv rfl rfl tabOk rfl rfl rfl (by simp only [lowK, hiK]; omega) ?_)
    refine ev_condD rfl (fun hlt => ?_) (fun hlt => ?_)
    · repeat (first
        | refine stepF_ok tabOk [] (m := 400) rfl ?_
        | refine stepF_ok tabOk [] (m := 16) rfl ?_
        | refine stepF_ok tabOk [] (m := 3) rfl ?_
        | refine stepF_ok tabOk [] (m := 0) rfl ?_
        | refine ev_load rfl rfl tabOk rfl rfl (by assumption) ?_
        | refine ev_loadB rfl rfl tabOk rfl rfl (by assumption) (by rfl) ?_
        | refine ev_loadAggB rfl rfl tabOk rfl rfl (by assumption) (by rfl) ?_
        | refine ev_arith rfl rfl rfl rfl rfl (by simp only [lowK, hiK]; omega) ?_
        | refine ev_rem rfl rfl rfl rfl (by omega) (by omega) ?_
        | refine ev_quo rfl rfl rfl rfl (by omega) (by omega) (by simp only [hiK]; omega) ?_
        | refine ev_index rfl rfl tabOk rfl rfl rfl (by omega) (by omega) ?_
        | refine ev_indexA rfl rfl tabOk rfl rfl rfl (by omega) (by omega) rfl ?_
        | refine ev_convB rfl rfl tabOk rfl rfl rfl rfl ?_
        | refine ev_conv rfl rfl tabOk rfl rfl rfl (by simp only [lowK, hiK]; omega) ?_)
      rw [show (1 : Int) = ((1 : Nat) : Int) from rfl, bits_and32 hc (by omega), and1]
      have e2 : ((crcK j (crcL (s.take k) ^^^ (s.getD k 0).toNat) : Nat) : Int).fdiv (2 ^ 1) = ((crcK j (crcL (s.take k) ^^^ (s.getD k 0).toNat) / 2 : Nat) : Int) := by
        rw [Int.fdiv_eq_ediv_of_nonneg _ (by omega)]; rfl
      rw [e2]
      have e3 : crcK (j + 1) (crcL (s.take k) ^^^ (s.getD k 0).toNat) = crcBit (crcK j (crcL (s.take k) ^^^ (s.getD k 0).toNat)) := rfl
      refine ev_condD rfl (fun h1 => ?_) (fun h1 => ?_)
      · repeat (first
          | refine stepF_ok tabOk [] (m := 400) rfl ?_
          | refine stepF_ok tabOk [] (m := 16) rfl ?_
          | refine stepF_ok tabOk [] (m := 3) rfl ?_
          | refine stepF_ok tabOk [] (m := 0) rfl ?_
          | refine ev_load rfl rfl tabOk rfl rfl (by assumption) ?_
          | refine ev_loadB rfl rfl tabOk rfl rfl (by assumption) (by rfl) ?_
          | refine ev_loadAggB rfl rfl tabOk rfl rfl (by assumption) (by rfl) ?_
          | refine ev_arith rfl rfl rfl rfl rfl (by simp only [lowK, hiK]; omega) ?_
          | refine ev_rem rfl rfl rfl rfl (by omega) (by omega) ?_
          | refine ev_quo rfl rfl rfl rfl (by omega) (by omega) (by simp only [hiK]; omega) ?_
          | refine ev_index rfl rfl tabOk rfl rfl rfl (by omega) (by omega) ?_
          | refine ev_indexA rfl rfl tabOk rfl rfl rfl (by omega) (by omega) rfl ?_
          | refine ev_convB rfl rfl tabOk rfl rfl rfl rfl ?_
          | refine ev_conv rfl rfl tabOk rfl rfl rfl (by simp only [lowK, hiK]; omega) ?_)
        rw [show (3988292384 : Int) = ((3988292384 : Nat) : Int) from rfl, bits_xor32 (by omega) (by omega)]
        refine ev_next (j + 1) (by omega) ⟨by omega, rfl⟩ ⟨rfl, ?_, rfl, rfl, rfl, trivial⟩
        rw [e3, crcBit, if_pos (by omega)]; rfl
      · repeat (first
          | refine stepF_ok tabOk [] (m := 400) rfl ?_
          | refine stepF_ok tabOk [] (m := 16) rfl ?_
          | refine stepF_ok tabOk [] (m := 3) rfl ?_
          | refine stepF_ok tabOk [] (m := 0) rfl ?_
          | refine ev_load rfl rfl tabOk rfl rfl (by assumption) ?_
          | refine ev_loadB rfl rfl tabOk rfl rfl (by assumption) (by rfl) ?_
          | refine ev_loadAggB rfl rfl tabOk rfl rfl (by assumption) (by rfl) ?_
          | refine ev_arith rfl rfl rfl rfl rfl (by simp only [lowK, hiK]; omega) ?_
          | refine ev_rem rfl rfl rfl rfl (by omega) (by omega) ?_
          | refine ev_quo rfl rfl rfl rfl (by omega) (by omega) (by simp only [hiK]; omega) ?_
          | refine ev_index rfl rfl tabOk rfl rfl rfl (by omega) (by omega) ?_
          | refine ev_indexA rfl rfl tabOk rfl rfl rfl (by omega) (by omega) rfl ?_
          | refine ev_convB rfl rfl tabOk rfl rfl rfl rfl ?_
          | refine ev_conv rfl rfl tabOk rfl rfl rfl (by simp only [lowK, hiK]; omega) ?_)
        refine ev_next (j + 1) (by omega) ⟨by omega, rfl⟩ ⟨rfl, ?_, rfl, rfl, rfl, trivial⟩
        rw [e3, crcBit, if_neg (by omega)]; rfl
    · have hj8 : j = 8 := by omega
      subst hj8
      repeat (first
        | refine stepF_ok tabOk [] (m := 400) rfl ?_
        | refine stepF_ok tabOk [] (m := 16) rfl ?_
        | refine stepF_ok tabOk [] (m := 3) rfl ?_
        | refine stepF_ok tabOk [] (m := 0) rfl ?_
        | refine ev_load rfl rfl tabOk rfl rfl (by assumption) ?_
        | refine ev_loadB rfl rfl tabOk rfl rfl (by assumption) (by rfl) ?_
        | refine ev_loadAggB rfl rfl tabOk rfl rfl (by assumption) (by rfl) ?_
        | refine ev_arith rfl rfl rfl rfl rfl (by simp only [lowK, hiK]; omega) ?_
        | refine ev_rem rfl rfl rfl rfl (by omega) (by omega) ?_
        | refine ev_quo rfl rfl rfl rfl (by omega) (by omega) (by simp only [hiK]; omega) ?_
        | refine ev_index rfl rfl tabOk rfl rfl rfl (by omega) (by omega) ?_
        | refine ev_indexA rfl rfl tabOk rfl rfl rfl (by omega) (by omega) rfl ?_
        | refine ev_convB rfl rfl tabOk rfl rfl rfl rfl ?_
        | refine ev_conv rfl rfl tabOk rfl rfl rfl (by simp only [lowK, hiK]; omega) ?_)
      refine ev_next (k + 1) (by omega) ⟨by omega, rfl⟩ ⟨rfl, ?_, rfl, rfl, trivial⟩
      rw [take_snoc (by omega), crcL_snoc]; rfl
  · repeat (first
      | refine stepF_ok tabOk [] (m := 400) rfl ?_
      | refine stepF_ok tabOk [] (m := 16) rfl ?_
      | refine stepF_ok tabOk [] (m := 3) rfl ?_
      | refine stepF_ok tabOk [] (m := 0) rfl ?_
      | refine ev_load rfl rfl tabOk rfl rfl (by assumption) ?_
      | refine ev_loadB rfl rfl tabOk rfl rfl (by assumption) (by rfl) ?_
      | refine ev_loadAggB rfl rfl tabOk rfl rfl (by assumption) (by rfl) ?_
      | refine ev_arith rfl rfl rfl rfl rfl (by simp only [lowK, hiK]; omega) ?_
      | refine ev_rem rfl rfl rfl rfl (by omega) (by omega) ?_
      | refine ev_quo rfl rfl rfl rfl (by omega) (by omega) (by simp only [hiK]; omega) ?_
      | refine ev_index rfl rfl tabOk rfl rfl rfl (by omega) (by omega) ?_
      | refine ev_indexA rfl rfl tabOk rfl rfl rfl (by omega) (by omega) rfl ?_
      | refine ev_convB rfl rfl tabOk rfl rfl rfl rfl ?_
      | refine ev_conv rfl rfl tabOk rfl rfl rfl (by simp only [lowK, hiK]; omega) ?_)
    have hk' : k = s.length := by omega
    subst hk'
    refine ret1 (.inr rfl) rfl rfl ⟨?_, rfl⟩
    have e : IntKind.u32.max = ((4294967295 : Nat) : Int) := by decide
    rw [List.take_length, e, bits_xor32 (by omega) (crcL_lt s), Nat.xor_comm]; rfl

theorem refCrc (s : List UInt8) (w : World) (hs : s.length ≤ 9223372036854775806) : CallsF Try.prog 52 [.string (sOf s)] w fun v w' => v = .int .u32 (crc s) ∧ w' = w := by
  refine callsF Try.func52 rfl rfl (by decide) rfl ?_
  repeat (first
    | refine stepF_ok tabOk [] (m := 400) rfl ?_
    | refine stepF_ok tabOk [] (m := 16) rfl ?_
    | refine stepF_ok tabOk [] (m := 3) rfl ?_
    | refine stepF_ok tabOk [] (m := 0) rfl ?_
    | refine ev_load rfl rfl tabOk rfl rfl (by assumption) ?_
    | refine ev_loadB rfl rfl tabOk rfl rfl (by assumption) (by rfl) ?_
    | refine ev_loadAggB rfl rfl tabOk rfl rfl (by assumption) (by rfl) ?_
    | refine ev_arith rfl rfl rfl rfl rfl (by simp only [lowK, hiK]; omega) ?_
    | refine ev_rem rfl rfl rfl rfl (by omega) (by omega) ?_
    | refine ev_quo rfl rfl rfl rfl (by omega) (by omega) (by simp only [hiK]; omega) ?_
    | refine ev_index rfl rfl tabOk rfl rfl rfl (by omega) (by omega) ?_
    | refine ev_indexA rfl rfl tabOk rfl rfl rfl (by omega) (by omega) rfl ?_
    | refine ev_convB rfl rfl tabOk rfl rfl rfl rfl ?_
    | refine ev_conv rfl rfl tabOk rfl rfl rfl (by simp only [lowK, hiK]; omega) ?_)
  refine ev_loop (α := Nat) (fun k => [(0, .string (sOf s)), (3, .int .u32 (crcL (s.take k))), (4, .int .i64 k)]) (fun k w' => k ≤ s.length ∧ w' = w) (fun k => s.length - k) 0 ⟨rfl, rfl, rfl, trivial⟩ ⟨Nat.zero_le _, rfl⟩ ?_
  rintro k w' ⟨hk, rfl⟩
  have hlt0 := crcL_lt (s.take k)
  repeat (first
    | refine stepF_ok tabOk [] (m := 400) rfl ?_
    | refine stepF_ok tabOk [] (m := 16) rfl ?_
    | refine stepF_ok tabOk [] (m := 3) rfl ?_
    | refine stepF_ok tabOk [] (m := 0) rfl ?_
    | refine ev_load rfl rfl tabOk rfl rfl (by assumption) ?_
    | refine ev_loadB rfl rfl tabOk rfl rfl (by assumption) (by rfl) ?_
    | refine ev_loadAggB rfl rfl tabOk rfl rfl (by assumption) (by rfl) ?_
    | refine ev_arith rfl rfl rfl rfl rfl (by simp only [lowK, hiK]; omega) ?_
    | refine ev_rem rfl rfl rfl rfl (by omega) (by omega) ?_
    | refine ev_quo rfl rfl rfl rfl (by omega) (by omega) (by simp only [hiK]; omega) ?_
    | refine ev_index rfl rfl tabOk rfl rfl rfl (by omega) (by omega) ?_
    | refine ev_indexA rfl rfl tabOk rfl rfl rfl (by omega) (by omega) rfl ?_
    | refine ev_convB rfl rfl tabOk rfl rfl rfl rfl ?_
    | refine ev_conv rfl rfl tabOk rfl rfl rfl (by simp only [lowK, hiK]; omega) ?_)
  refine ev_condD rfl (fun h => ?_) (fun h => ?_)
  · repeat (first
      | refine stepF_ok tabOk [] (m := 400) rfl ?_
      | refine stepF_ok tabOk [] (m := 16) rfl ?_
      | refine stepF_ok tabOk [] (m := 3) rfl ?_
      | refine stepF_ok tabOk [] (m := 0) rfl ?_
      | refine ev_load rfl rfl tabOk rfl rfl (by assumption) ?_
      | refine ev_loadB rfl rfl tabOk rfl rfl (by assumption) (by rfl) ?_
      | refine ev_loadAggB rfl rfl tabOk rfl rfl (by assumption) (by rfl) ?_
      | refine ev_arith rfl rfl rfl rfl rfl (by simp only [lowK, hiK]; omega) ?_
      | refine ev_rem rfl rfl rfl rfl (by omega) (by omega) ?_
      | refine ev_quo rfl rfl rfl rfl (by omega) (by omega) (by simp only [hiK]; omega) ?_
      | refine ev_index rfl rfl tabOk rfl rfl rfl (by omega) (by omega) ?_
      | refine ev_indexA rfl rfl tabOk rfl rfl rfl (by omega) (by omega) rfl ?_
      | refine ev_convB rfl rfl tabOk rfl rfl rfl rfl ?_
      | refine ev_conv rfl rfl tabOk rfl rfl rfl (by simp only [lowK, hiK]; omega) ?_)
    have hb := (s.getD k 0).toNat_lt
    rw [Int.toNat_natCast, bits_xor32 hlt0 (by omega)]
    have hx := xorb_lt (s.getD k 0) hlt0
    repeat (first
      | refine stepF_ok tabOk [] (m := 400) rfl ?_
      | refine stepF_ok tabOk [] (m := 16) rfl ?_
      | refine stepF_ok tabOk [] (m := 3) rfl ?_
      | refine stepF_ok tabOk [] (m := 0) rfl ?_
      | refine ev_load rfl rfl tabOk rfl rfl (by assumption) ?_
      | refine ev_loadB rfl rfl tabOk rfl rfl (by assumption) (by rfl) ?_
      | refine ev_loadAggB rfl rfl tabOk rfl rfl (by assumption) (by rfl) ?_
      | refine ev_arith rfl rfl rfl rfl rfl (by simp only [lowK, hiK]; omega) ?_
      | refine ev_rem rfl rfl rfl rfl (by omega) (by omega) ?_
      | refine ev_quo rfl rfl rfl rfl (by omega) (by omega) (by simp only [hiK]; omega) ?_
      | refine ev_index rfl rfl tabOk rfl rfl rfl (by omega) (by omega) ?_
      | refine ev_indexA rfl rfl tabOk rfl rfl rfl (by omega) (by omega) rfl ?_
      | refine ev_convB rfl rfl tabOk rfl rfl rfl rfl ?_
      | refine ev_conv rfl rfl tabOk rfl rfl rfl (by simp only [lowK, hiK]; omega) ?_)
    refine ev_loop (α := Nat) (fun j => [(0, .string (sOf s)), (3, .int .u32 (crcK j (crcL (s.take k) ^^^ (s.getD k 0).toNat))), (4, .int .i64 k), (5, .int .i64 j)]) (fun j w2 => j ≤ 8 ∧ w2 = w') (fun j => 8 - j) 0 ⟨rfl, rfl, rfl, rfl, trivial⟩ ⟨Nat.zero_le _, rfl⟩ ?_
    rintro j w2 ⟨hj, rfl⟩
    have hc := crcK_lt j hx
    repeat (first
      | refine stepF_ok tabOk [] (m := 400) rfl ?_
      | refine stepF_ok tabOk [] (m := 16) rfl ?_
      | refine stepF_ok tabOk [] (m := 3) rfl ?_
      | refine stepF_ok tabOk [] (m := 0) rfl ?_
      | refine ev_load rfl rfl tabOk rfl rfl (by assumption) ?_
      | refine ev_loadB rfl rfl tabOk rfl rfl (by assumption) (by rfl) ?_
      | refine ev_loadAggB rfl rfl tabOk rfl rfl (by assumption) (by rfl) ?_
      | refine ev_arith rfl rfl rfl rfl rfl (by simp only [lowK, hiK]; omega) ?_
      | refine ev_rem rfl rfl rfl rfl (by omega) (by omega) ?_
      | refine ev_quo rfl rfl rfl rfl (by omega) (by omega) (by simp only [hiK]; omega) ?_
      | refine ev_index rfl rfl tabOk rfl rfl rfl (by omega) (by omega) ?_
      | refine ev_indexA rfl rfl tabOk rfl rfl rfl (by omega) (by omega) rfl ?_
      | refine ev_convB rfl rfl tabOk rfl rfl rfl rfl ?_
      | refine ev_conv rfl rfl tabOk rfl rfl rfl (by simp only [lowK, hiK]; omega) ?_)
    refine ev_condD rfl (fun hlt => ?_) (fun hlt => ?_)
    · repeat (first
        | refine stepF_ok tabOk [] (m := 400) rfl ?_
        | refine stepF_ok tabOk [] (m := 16) rfl ?_
        | refine stepF_ok tabOk [] (m := 3) rfl ?_
        | refine stepF_ok tabOk [] (m := 0) rfl ?_
        | refine ev_load rfl rfl tabOk rfl rfl (by assumption) ?_
        | refine ev_loadB rfl rfl tabOk rfl rfl (by assumption) (by rfl) ?_
        | refine ev_loadAggB rfl rfl tabOk rfl rfl (by assumption) (by rfl) ?_
        | refine ev_arith rfl rfl rfl rfl rfl (by simp only [lowK, hiK]; omega) ?_
        | refine ev_rem rfl rfl rfl rfl (by omega) (by omega) ?_
        | refine ev_quo rfl rfl rfl rfl (by omega) (by omega) (by simp only [hiK]; omega) ?_
        | refine ev_index rfl rfl tabOk rfl rfl rfl (by omega) (by omega) ?_
        | refine ev_indexA rfl rfl tabOk rfl rfl rfl (by omega) (by omega) rfl ?_
        | refine ev_convB rfl rfl tabOk rfl rfl rfl rfl ?_
        | refine ev_conv rfl rfl tabOk rfl rfl rfl (by simp only [lowK, hiK]; omega) ?_)
      have e3 : crcK (j + 1) (crcL (s.take k) ^^^ (s.getD k 0).toNat) = crcBit (crcK j (crcL (s.take k) ^^^ (s.getD k 0).toNat)) := rfl
      refine ev_condD rfl (fun h1 => ?_) (fun h1 => ?_)
      · repeat (first
          | refine stepF_ok tabOk [] (m := 400) rfl ?_
          | refine stepF_ok tabOk [] (m := 16) rfl ?_
          | refine stepF_ok tabOk [] (m := 3) rfl ?_
          | refine stepF_ok tabOk [] (m := 0) rfl ?_
          | refine ev_load rfl rfl tabOk rfl rfl (by assumption) ?_
          | refine ev_loadB rfl rfl tabOk rfl rfl (by assumption) (by rfl) ?_
          | refine ev_loadAggB rfl rfl tabOk rfl rfl (by assumption) (by rfl) ?_
          | refine ev_arith rfl rfl rfl rfl rfl (by simp only [lowK, hiK]; omega) ?_
          | refine ev_rem rfl rfl rfl rfl (by omega) (by omega) ?_
          | refine ev_quo rfl rfl rfl rfl (by omega) (by omega) (by simp only [hiK]; omega) ?_
          | refine ev_index rfl rfl tabOk rfl rfl rfl (by omega) (by omega) ?_
          | refine ev_indexA rfl rfl tabOk rfl rfl rfl (by omega) (by omega) rfl ?_
          | refine ev_convB rfl rfl tabOk rfl rfl rfl rfl ?_
          | refine ev_conv rfl rfl tabOk rfl rfl rfl (by simp only [lowK, hiK]; omega) ?_)
        have e2 : ((crcK j (crcL (s.take k) ^^^ (s.getD k 0).toNat) : Nat) : Int) / 2 = ((crcK j (crcL (s.take k) ^^^ (s.getD k 0).toNat) / 2 : Nat) : Int) := by omega
        rw [e2, show (3988292384 : Int) = ((3988292384 : Nat) : Int) from rfl, bits_xor32 (by omega) (by omega)]
        refine ev_next (j + 1) (by omega) ⟨by omega, rfl⟩ ⟨rfl, ?_, rfl, rfl, trivial⟩
        rw [e3, crcBit, if_pos (by omega)]; rfl
      · repeat (first
          | refine stepF_ok tabOk [] (m := 400) rfl ?_
          | refine stepF_ok tabOk [] (m := 16) rfl ?_
          | refine stepF_ok tabOk [] (m := 3) rfl ?_
          | refine stepF_ok tabOk [] (m := 0) rfl ?_
          | refine ev_load rfl rfl tabOk rfl rfl (by assumption) ?_
          | refine ev_loadB rfl rfl tabOk rfl rfl (by assumption) (by rfl) ?_
          | refine ev_loadAggB rfl rfl tabOk rfl rfl (by assumption) (by rfl) ?_
          | refine ev_arith rfl rfl rfl rfl rfl (by simp only [lowK, hiK]; omega) ?_
          | refine ev_rem rfl rfl rfl rfl (by omega) (by omega) ?_
          | refine ev_quo rfl rfl rfl rfl (by omega) (by omega) (by simp only [hiK]; omega) ?_
          | refine ev_index rfl rfl tabOk rfl rfl rfl (by omega) (by omega) ?_
          | refine ev_indexA rfl rfl tabOk rfl rfl rfl (by omega) (by omega) rfl ?_
          | refine ev_convB rfl rfl tabOk rfl rfl rfl rfl ?_
          | refine ev_conv rfl rfl tabOk rfl rfl rfl (by simp only [lowK, hiK]; omega) ?_)
        refine ev_next (j + 1) (by omega) ⟨by omega, rfl⟩ ⟨rfl, ?_, rfl, rfl, trivial⟩
        rw [e3, crcBit, if_neg (by omega)]; rfl
    · have hj8 : j = 8 := by omega
      subst hj8
      repeat (first
        | refine stepF_ok tabOk [] (m := 400) rfl ?_
        | refine stepF_ok tabOk [] (m := 16) rfl ?_
        | refine stepF_ok tabOk [] (m := 3) rfl ?_
        | refine stepF_ok tabOk [] (m := 0) rfl ?_
        | refine ev_load rfl rfl tabOk rfl rfl (by assumption) ?_
        | refine ev_loadB rfl rfl tabOk rfl rfl (by assumption) (by rfl) ?_
        | refine ev_loadAggB rfl rfl tabOk rfl rfl (by assumption) (by rfl) ?_
        | refine ev_arith rfl rfl rfl rfl rfl (by simp only [lowK, hiK]; omega) ?_
        | refine ev_rem rfl rfl rfl rfl (by omega) (by omega) ?_
        | refine ev_quo rfl rfl rfl rfl (by omega) (by omega) (by simp only [hiK]; omega) ?_
        | refine ev_index rfl rfl tabOk rfl rfl rfl (by omega) (by omega) ?_
        | refine ev_indexA rfl rfl tabOk rfl rfl rfl (by omega) (by omega) rfl ?_
        | refine ev_convB rfl rfl tabOk rfl rfl rfl rfl ?_
        | refine ev_conv rfl rfl tabOk rfl rfl rfl (by simp only [lowK, hiK]; omega) ?_)
      refine ev_next (k + 1) (by omega) ⟨by omega, rfl⟩ ⟨rfl, ?_, rfl, trivial⟩
      rw [take_snoc (by omega), crcL_snoc]; rfl
  · repeat (first
      | refine stepF_ok tabOk [] (m := 400) rfl ?_
      | refine stepF_ok tabOk [] (m := 16) rfl ?_
      | refine stepF_ok tabOk [] (m := 3) rfl ?_
      | refine stepF_ok tabOk [] (m := 0) rfl ?_
      | refine ev_load rfl rfl tabOk rfl rfl (by assumption) ?_
      | refine ev_loadB rfl rfl tabOk rfl rfl (by assumption) (by rfl) ?_
      | refine ev_loadAggB rfl rfl tabOk rfl rfl (by assumption) (by rfl) ?_
      | refine ev_arith rfl rfl rfl rfl rfl (by simp only [lowK, hiK]; omega) ?_
      | refine ev_rem rfl rfl rfl rfl (by omega) (by omega) ?_
      | refine ev_quo rfl rfl rfl rfl (by omega) (by omega) (by simp only [hiK]; omega) ?_
      | refine ev_index rfl rfl tabOk rfl rfl rfl (by omega) (by omega) ?_
      | refine ev_indexA rfl rfl tabOk rfl rfl rfl (by omega) (by omega) rfl ?_
      | refine ev_convB rfl rfl tabOk rfl rfl rfl rfl ?_
      | refine ev_conv rfl rfl tabOk rfl rfl rfl (by simp only [lowK, hiK]; omega) ?_)
    have hk' : k = s.length := by omega
    subst hk'
    refine ret1 (.inr rfl) rfl rfl ⟨?_, rfl⟩
    rw [List.take_length, show (4294967295 : Int) = ((4294967295 : Nat) : Int) from rfl, bits_xor32 (crcL_lt s) (by omega)]; rfl

theorem refGroups (n : Nat) (w : World) (hn : n < 18446744073709551616) : CallsF Try.prog 67 [.int .u64 n] w fun r w' => r = .string (sOf (grB n)) ∧ Fr no w w' := by
  have hgl : (grB n).length ≤ 10 := grB_len 9 (by omega)
  refine callsF Try.func67 rfl rfl (by decide) rfl ?_
  repeat (first
    | refine stepF_ok tabOk [] (m := 400) rfl ?_
    | refine stepF_ok tabOk [] (m := 16) rfl ?_
    | refine stepF_ok tabOk [] (m := 3) rfl ?_
    | refine stepF_ok tabOk [] (m := 0) rfl ?_
    | refine ev_load rfl rfl tabOk rfl rfl (by assumption) ?_
    | refine ev_loadB rfl rfl tabOk rfl rfl (by assumption) (by rfl) ?_
    | refine ev_loadAggB rfl rfl tabOk rfl rfl (by assumption) (by rfl) ?_
    | refine ev_arith rfl rfl rfl rfl rfl (by simp only [lowK, hiK]; omega) ?_
    | refine ev_rem rfl rfl rfl rfl (by omega) (by omega) ?_
    | refine ev_quo rfl rfl rfl rfl (by omega) (by omega) (by simp only [hiK]; omega) ?_
    | refine ev_index rfl rfl tabOk rfl rfl rfl (by omega) (by omega) ?_
    | refine ev_indexA rfl rfl tabOk rfl rfl rfl (by omega) (by omega) rfl ?_
    | refine ev_convB rfl rfl tabOk rfl rfl rfl rfl ?_
    | refine ev_conv rfl rfl tabOk rfl rfl rfl (by simp only [lowK, hiK]; omega) ?_)
  refine ev_buildSlice tabOk rfl rfl rfl inf5 rfl rfl rfl (by simp) rfl (fun q w1 hq hb1 hf1 => ?_)
  have ho1 := own_of_blk (m := 0) (sz := 1) hb1 rfl (by omega)
  repeat (first
    | refine stepF_ok tabOk [] (m := 400) rfl ?_
    | refine stepF_ok tabOk [] (m := 16) rfl ?_
    | refine stepF_ok tabOk [] (m := 3) rfl ?_
    | refine stepF_ok tabOk [] (m := 0) rfl ?_
    | refine ev_load rfl rfl tabOk rfl rfl (by assumption) ?_
    | refine ev_loadB rfl rfl tabOk rfl rfl (by assumption) (by rfl) ?_
    | refine ev_loadAggB rfl rfl tabOk rfl rfl (by assumption) (by rfl) ?_
    | refine ev_arith rfl rfl rfl rfl rfl (by simp only [lowK, hiK]; omega) ?_
    | refine ev_rem rfl rfl rfl rfl (by omega) (by omega) ?_
    | refine ev_quo rfl rfl rfl rfl (by omega) (by omega) (by simp only [hiK]; omega) ?_
    | refine ev_index rfl rfl tabOk rfl rfl rfl (by omega) (by omega) ?_
    | refine ev_indexA rfl rfl tabOk rfl rfl rfl (by omega) (by omega) rfl ?_
    | refine ev_convB rfl rfl tabOk rfl rfl rfl rfl ?_
    | refine ev_conv rfl rfl tabOk rfl rfl rfl (by simp only [lowK, hiK]; omega) ?_)
  refine ev_loop (α := Nat × Value × List UInt8) (fun y => [(0, .int .u64 y.1), (3, y.2.1)])
    (fun y w1 => y.1 ≤ n ∧ y.2.2 ++ grB y.1 = grB n ∧ Own w1 5 1 y.2.1 y.2.2.length (y.2.2.map bv) ∧ (∀ g, y.2.1.ownBlock = some g → w.heap.size ≤ g) ∧ Fr no w w1) (fun y => y.1) (n, _, []) ⟨rfl, rfl, trivial⟩
    ⟨Nat.le_refl _, rfl, ho1, fun g hg => by simp only [Value.ownBlock, Option.some.injEq] at hg; omega, hf1⟩ ?_
  clear ho1 hb1 hf1
  rintro ⟨m, v, pre⟩ w1 ⟨hm, hpre, ho, hg, hf⟩
  simp only at hm hpre ho hg
  have hpl : pre.length ≤ 10 := by have := congrArg List.length hpre; simp only [List.length_append] at this; omega
  repeat (first
    | refine stepF_ok tabOk [] (m := 400) rfl ?_
    | refine stepF_ok tabOk [] (m := 16) rfl ?_
    | refine stepF_ok tabOk [] (m := 3) rfl ?_
    | refine stepF_ok tabOk [] (m := 0) rfl ?_
    | refine ev_load rfl rfl tabOk rfl rfl (by assumption) ?_
    | refine ev_loadB rfl rfl tabOk rfl rfl (by assumption) (by rfl) ?_
    | refine ev_loadAggB rfl rfl tabOk rfl rfl (by assumption) (by rfl) ?_
    | refine ev_arith rfl rfl rfl rfl rfl (by simp only [lowK, hiK]; omega) ?_
    | refine ev_rem rfl rfl rfl rfl (by omega) (by omega) ?_
    | refine ev_quo rfl rfl rfl rfl (by omega) (by omega) (by simp only [hiK]; omega) ?_
    | refine ev_index rfl rfl tabOk rfl rfl rfl (by omega) (by omega) ?_
    | refine ev_indexA rfl rfl tabOk rfl rfl rfl (by omega) (by omega) rfl ?_
    | refine ev_convB rfl rfl tabOk rfl rfl rfl rfl ?_
    | refine ev_conv rfl rfl tabOk rfl rfl rfl (by simp only [lowK, hiK]; omega) ?_)
  refine ev_condD rfl (fun hlt => ?_) (fun hlt => ?_)
  · simp only at hlt
    have hgb := grB_big (n := m) (by omega)
    repeat (first
      | refine stepF_ok tabOk [] (m := 400) rfl ?_
      | refine stepF_ok tabOk [] (m := 16) rfl ?_
      | refine stepF_ok tabOk [] (m := 3) rfl ?_
      | refine stepF_ok tabOk [] (m := 0) rfl ?_
      | refine ev_load rfl rfl tabOk rfl rfl (by assumption) ?_
      | refine ev_loadB rfl rfl tabOk rfl rfl (by assumption) (by rfl) ?_
      | refine ev_loadAggB rfl rfl tabOk rfl rfl (by assumption) (by rfl) ?_
      | refine ev_arith rfl rfl rfl rfl rfl (by simp only [lowK, hiK]; omega) ?_
      | refine ev_rem rfl rfl rfl rfl (by omega) (by omega) ?_
      | refine ev_quo rfl rfl rfl rfl (by omega) (by omega) (by simp only [hiK]; omega) ?_
      | refine ev_index rfl rfl tabOk rfl rfl rfl (by omega) (by omega) ?_
      | refine ev_indexA rfl rfl tabOk rfl rfl rfl (by omega) (by omega) rfl ?_
      | refine ev_convB rfl rfl tabOk rfl rfl rfl rfl ?_
      | refine ev_conv rfl rfl tabOk rfl rfl rfl (by simp only [lowK, hiK]; omega) ?_)
    have e1 : (m : Int) % 128 + 128 = ((m % 128 + 128 : Nat) : Int) := by omega
    rw [e1]
    refine ev_append1 tabOk rfl rfl (fun _ => rfl) rfl rfl inf5 rfl (by omega) (fun _ => rfl) rfl rfl (by simp [Value.cells]) (by simp [flatV, Value.cells, Value.oneCell']) rfl ho (by omega) (fun v2 w2 q ho2 hf2 hn2 => ?_)
    rw [flat_u8 _ (by omega), ← List.map_append] at ho2
    repeat (first
      | refine stepF_ok tabOk [] (m := 400) rfl ?_
      | refine stepF_ok tabOk [] (m := 16) rfl ?_
      | refine stepF_ok tabOk [] (m := 3) rfl ?_
      | refine stepF_ok tabOk [] (m := 0) rfl ?_
      | refine ev_load rfl rfl tabOk rfl rfl (by assumption) ?_
      | refine ev_loadB rfl rfl tabOk rfl rfl (by assumption) (by rfl) ?_
      | refine ev_loadAggB rfl rfl tabOk rfl rfl (by assumption) (by rfl) ?_
      | refine ev_arith rfl rfl rfl rfl rfl (by simp only [lowK, hiK]; omega) ?_
      | refine ev_rem rfl rfl rfl rfl (by omega) (by omega) ?_
      | refine ev_quo rfl rfl rfl rfl (by omega) (by omega) (by simp only [hiK]; omega) ?_
      | refine ev_index rfl rfl tabOk rfl rfl rfl (by omega) (by omega) ?_
      | refine ev_indexA rfl rfl tabOk rfl rfl rfl (by omega) (by omega) rfl ?_
      | refine ev_convB rfl rfl tabOk rfl rfl rfl rfl ?_
      | refine ev_conv rfl rfl tabOk rfl rfl rfl (by simp only [lowK, hiK]; omega) ?_)
    refine ev_next (m / 128, v2, pre ++ [UInt8.ofNat (m % 128 + 128)]) (by simp only; omega) ⟨by simp only; omega, ?_, ?_, ?_, hf.trans hf2 (fun b hb e => by have := hg b e; omega)⟩ ⟨by simp only; rfl, rfl, trivial⟩
    · simp only [List.append_assoc, List.singleton_append]; rw [← hpre, hgb]
    · simp only [List.length_append, List.length_singleton]; exact ho2
    · intro g hg2
      rcases hn2 g hg2 with h | h
      · exact hg g h
      · have := hf.size; omega
  · simp only at hlt
    have hgb := grB_small (n := m) (by omega)
    repeat (first
      | refine stepF_ok tabOk [] (m := 400) rfl ?_
      | refine stepF_ok tabOk [] (m := 16) rfl ?_
      | refine stepF_ok tabOk [] (m := 3) rfl ?_
      | refine stepF_ok tabOk [] (m := 0) rfl ?_
      | refine ev_load rfl rfl tabOk rfl rfl (by assumption) ?_
      | refine ev_loadB rfl rfl tabOk rfl rfl (by assumption) (by rfl) ?_
      | refine ev_loadAggB rfl rfl tabOk rfl rfl (by assumption) (by rfl) ?_
      | refine ev_arith rfl rfl rfl rfl rfl (by simp only [lowK, hiK]; omega) ?_
      | refine ev_rem rfl rfl rfl rfl (by omega) (by omega) ?_
      | refine ev_quo rfl rfl rfl rfl (by omega) (by omega) (by simp only [hiK]; omega) ?_
      | refine ev_index rfl rfl tabOk rfl rfl rfl (by omega) (by omega) ?_
      | refine ev_indexA rfl rfl tabOk rfl rfl rfl (by omega) (by omega) rfl ?_
      | refine ev_convB rfl rfl tabOk rfl rfl rfl rfl ?_
      | refine ev_conv rfl rfl tabOk rfl rfl rfl (by simp only [lowK, hiK]; omega) ?_)
    refine ev_append1 tabOk rfl rfl (fun _ => rfl) rfl rfl inf5 rfl (by omega) (fun _ => rfl) rfl rfl (by simp [Value.cells]) (by simp [flatV, Value.cells, Value.oneCell']) rfl ho (by omega) (fun v2 w2 q ho2 hf2 hn2 => ?_)
    rw [flat_u8 _ (by omega), ← List.map_append, ← hgb, hpre] at ho2
    obtain ⟨A2, c2, rfl, hc2, _⟩ := ho2.slice
    have hl2 : pre.length + 1 = (grB n).length := by rw [← hpre, hgb]; simp
    rw [hl2]
    repeat (first
      | refine stepF_ok tabOk [] (m := 400) rfl ?_
      | refine stepF_ok tabOk [] (m := 16) rfl ?_
      | refine stepF_ok tabOk [] (m := 3) rfl ?_
      | refine stepF_ok tabOk [] (m := 0) rfl ?_
      | refine ev_load rfl rfl tabOk rfl rfl (by assumption) ?_
      | refine ev_loadB rfl rfl tabOk rfl rfl (by assumption) (by rfl) ?_
      | refine ev_loadAggB rfl rfl tabOk rfl rfl (by assumption) (by rfl) ?_
      | refine ev_arith rfl rfl rfl rfl rfl (by simp only [lowK, hiK]; omega) ?_
      | refine ev_rem rfl rfl rfl rfl (by omega) (by omega) ?_
      | refine ev_quo rfl rfl rfl rfl (by omega) (by omega) (by simp only [hiK]; omega) ?_
      | refine ev_index rfl rfl tabOk rfl rfl rfl (by omega) (by omega) ?_
      | refine ev_indexA rfl rfl tabOk rfl rfl rfl (by omega) (by omega) rfl ?_
      | refine ev_convB rfl rfl tabOk rfl rfl rfl rfl ?_
      | refine ev_conv rfl rfl tabOk rfl rfl rfl (by simp only [lowK, hiK]; omega) ?_)
    refine ev_strOf (bs := grB n) rfl rfl tabOk rfl rfl rfl rfl hc2 ?_
    repeat (first
      | refine stepF_ok tabOk [] (m := 400) rfl ?_
      | refine stepF_ok tabOk [] (m := 16) rfl ?_
      | refine stepF_ok tabOk [] (m := 3) rfl ?_
      | refine stepF_ok tabOk [] (m := 0) rfl ?_
      | refine ev_load rfl rfl tabOk rfl rfl (by assumption) ?_
      | refine ev_loadB rfl rfl tabOk rfl rfl (by assumption) (by rfl) ?_
      | refine ev_loadAggB rfl rfl tabOk rfl rfl (by assumption) (by rfl) ?_
      | refine ev_arith rfl rfl rfl rfl rfl (by simp only [lowK, hiK]; omega) ?_
      | refine ev_rem rfl rfl rfl rfl (by omega) (by omega) ?_
      | refine ev_quo rfl rfl rfl rfl (by omega) (by omega) (by simp only [hiK]; omega) ?_
      | refine ev_index rfl rfl tabOk rfl rfl rfl (by omega) (by omega) ?_
      | refine ev_indexA rfl rfl tabOk rfl rfl rfl (by omega) (by omega) rfl ?_
      | refine ev_convB rfl rfl tabOk rfl rfl rfl rfl ?_
      | refine ev_conv rfl rfl tabOk rfl rfl rfl (by simp only [lowK, hiK]; omega) ?_)
    exact ret1 (.inr rfl) rfl rfl ⟨rfl, hf.trans hf2 (fun b hb e => by have := hg b e; omega)⟩

theorem refShort (n : Int) (w : World) (hn : n ≤ 9223372036854775807) : CallsF Try.prog 48 [.int .i64 n] w fun r w' => r = .tuple #[.string (sOf (shB n)), .int .i64 (shE n)] ∧ Fr no w w' := by
  refine callsF Try.func48 rfl rfl (by decide) rfl ?_
  repeat (first
    | refine stepF_ok tabOk [] (m := 400) rfl ?_
    | refine stepF_ok tabOk [] (m := 16) rfl ?_
    | refine stepF_ok tabOk [] (m := 3) rfl ?_
    | refine stepF_ok tabOk [] (m := 0) rfl ?_
    | refine ev_load rfl rfl tabOk rfl rfl (by assumption) ?_
    | refine ev_loadB rfl rfl tabOk rfl rfl (by assumption) (by rfl) ?_
    | refine ev_loadAggB rfl rfl tabOk rfl rfl (by assumption) (by rfl) ?_
    | refine ev_arith rfl rfl rfl rfl rfl (by simp only [lowK, hiK]; omega) ?_
    | refine ev_rem rfl rfl rfl rfl (by omega) (by omega) ?_
    | refine ev_quo rfl rfl rfl rfl (by omega) (by omega) (by simp only [hiK]; omega) ?_
    | refine ev_index rfl rfl tabOk rfl rfl rfl (by omega) (by omega) ?_
    | refine ev_indexA rfl rfl tabOk rfl rfl rfl (by omega) (by omega) rfl ?_
    | refine ev_convB rfl rfl tabOk rfl rfl rfl rfl ?_
    | refine ev_conv rfl rfl tabOk rfl rfl rfl (by simp only [lowK, hiK]; omega) ?_)
  refine ev_condD rfl (fun h0 => ?_) (fun h0 => ?_)
  · repeat (first
      | refine stepF_ok tabOk [] (m := 400) rfl ?_
      | refine stepF_ok tabOk [] (m := 16) rfl ?_
      | refine stepF_ok tabOk [] (m := 3) rfl ?_
      | refine stepF_ok tabOk [] (m := 0) rfl ?_
      | refine ev_load rfl rfl tabOk rfl rfl (by assumption) ?_
      | refine ev_loadB rfl rfl tabOk rfl rfl (by assumption) (by rfl) ?_
      | refine ev_loadAggB rfl rfl tabOk rfl rfl (by assumption) (by rfl) ?_
      | refine ev_arith rfl rfl rfl rfl rfl (by simp only [lowK, hiK]; omega) ?_
      | refine ev_rem rfl rfl rfl rfl (by omega) (by omega) ?_
      | refine ev_quo rfl rfl rfl rfl (by omega) (by omega) (by simp only [hiK]; omega) ?_
      | refine ev_index rfl rfl tabOk rfl rfl rfl (by omega) (by omega) ?_
      | refine ev_indexA rfl rfl tabOk rfl rfl rfl (by omega) (by omega) rfl ?_
      | refine ev_convB rfl rfl tabOk rfl rfl rfl rfl ?_
      | refine ev_conv rfl rfl tabOk rfl rfl rfl (by simp only [lowK, hiK]; omega) ?_)
    exact ret2 (.inr rfl) rfl rfl rfl ⟨by unfold shB shE; rw [if_pos h0, if_pos h0], Fr.refl _ _⟩
  · obtain ⟨m, rfl⟩ := Int.eq_ofNat_of_zero_le (show 0 ≤ n by omega)
    repeat (first
      | refine stepF_ok tabOk [] (m := 400) rfl ?_
      | refine stepF_ok tabOk [] (m := 16) rfl ?_
      | refine stepF_ok tabOk [] (m := 3) rfl ?_
      | refine stepF_ok tabOk [] (m := 0) rfl ?_
      | refine ev_load rfl rfl tabOk rfl rfl (by assumption) ?_
      | refine ev_loadB rfl rfl tabOk rfl rfl (by assumption) (by rfl) ?_
      | refine ev_loadAggB rfl rfl tabOk rfl rfl (by assumption) (by rfl) ?_
      | refine ev_arith rfl rfl rfl rfl rfl (by simp only [lowK, hiK]; omega) ?_
      | refine ev_rem rfl rfl rfl rfl (by omega) (by omega) ?_
      | refine ev_quo rfl rfl rfl rfl (by omega) (by omega) (by simp only [hiK]; omega) ?_
      | refine ev_index rfl rfl tabOk rfl rfl rfl (by omega) (by omega) ?_
      | refine ev_indexA rfl rfl tabOk rfl rfl rfl (by omega) (by omega) rfl ?_
      | refine ev_convB rfl rfl tabOk rfl rfl rfl rfl ?_
      | refine ev_conv rfl rfl tabOk rfl rfl rfl (by simp only [lowK, hiK]; omega) ?_)
    refine ev_call rfl rfl rfl (refGroups m _ (by omega)) (fun r w' hr => ?_)
    obtain ⟨rfl, hf⟩ := hr
    repeat (first
      | refine stepF_ok tabOk [] (m := 400) rfl ?_
      | refine stepF_ok tabOk [] (m := 16) rfl ?_
      | refine stepF_ok tabOk [] (m := 3) rfl ?_
      | refine stepF_ok tabOk [] (m := 0) rfl ?_
      | refine ev_load rfl rfl tabOk rfl rfl (by assumption) ?_
      | refine ev_loadB rfl rfl tabOk rfl rfl (by assumption) (by rfl) ?_
      | refine ev_loadAggB rfl rfl tabOk rfl rfl (by assumption) (by rfl) ?_
      | refine ev_arith rfl rfl rfl rfl rfl (by simp only [lowK, hiK]; omega) ?_
      | refine ev_rem rfl rfl rfl rfl (by omega) (by omega) ?_
      | refine ev_quo rfl rfl rfl rfl (by omega) (by omega) (by simp only [hiK]; omega) ?_
      | refine ev_index rfl rfl tabOk rfl rfl rfl (by omega) (by omega) ?_
      | refine ev_indexA rfl rfl tabOk rfl rfl rfl (by omega) (by omega) rfl ?_
      | refine ev_convB rfl rfl tabOk rfl rfl rfl rfl ?_
      | refine ev_conv rfl rfl tabOk rfl rfl rfl (by simp only [lowK, hiK]; omega) ?_)
    exact ret2 (.inr rfl) rfl rfl rfl ⟨by unfold shB shE; rw [if_neg h0, if_neg h0]; rfl, hf⟩

theorem refSigned (n : Int) (w : World) (h1 : -9223372036854775808 ≤ n) (h2 : n ≤ 9223372036854775807) : CallsF Try.prog 50 [.int .i64 n] w fun r w' => r = .string (sOf (grB (zz n))) ∧ Fr no w w' := by
  refine callsF Try.func50 rfl rfl (by decide) rfl ?_
  repeat (first
    | refine stepF_ok tabOk [] (m := 400) rfl ?_
    | refine stepF_ok tabOk [] (m := 16) rfl ?_
    | refine stepF_ok tabOk [] (m := 3) rfl ?_
    | refine stepF_ok tabOk [] (m := 0) rfl ?_
    | refine ev_load rfl rfl tabOk rfl rfl (by assumption) ?_
    | refine ev_loadB rfl rfl tabOk rfl rfl (by assumption) (by rfl) ?_
    | refine ev_loadAggB rfl rfl tabOk rfl rfl (by assumption) (by rfl) ?_
    | refine ev_arith rfl rfl rfl rfl rfl (by simp only [lowK, hiK]; omega) ?_
    | refine ev_rem rfl rfl rfl rfl (by omega) (by omega) ?_
    | refine ev_quo rfl rfl rfl rfl (by omega) (by omega) (by simp only [hiK]; omega) ?_
    | refine ev_index rfl rfl tabOk rfl rfl rfl (by omega) (by omega) ?_
    | refine ev_indexA rfl rfl tabOk rfl rfl rfl (by omega) (by omega) rfl ?_
    | refine ev_convB rfl rfl tabOk rfl rfl rfl rfl ?_
    | refine ev_conv rfl rfl tabOk rfl rfl rfl (by simp only [lowK, hiK]; omega) ?_)
  refine ev_condD rfl (fun h0 => ?_) (fun h0 => ?_)
  · repeat (first
      | refine stepF_ok tabOk [] (m := 400) rfl ?_
      | refine stepF_ok tabOk [] (m := 16) rfl ?_
      | refine stepF_ok tabOk [] (m := 3) rfl ?_
      | refine stepF_ok tabOk [] (m := 0) rfl ?_
      | refine ev_load rfl rfl tabOk rfl rfl (by assumption) ?_
      | refine ev_loadB rfl rfl tabOk rfl rfl (by assumption) (by rfl) ?_
      | refine ev_loadAggB rfl rfl tabOk rfl rfl (by assumption) (by rfl) ?_
      | refine ev_arith rfl rfl rfl rfl rfl (by simp only [lowK, hiK]; omega) ?_
      | refine ev_rem rfl rfl rfl rfl (by omega) (by omega) ?_
      | refine ev_quo rfl rfl rfl rfl (by omega) (by omega) (by simp only [hiK]; omega) ?_
      | refine ev_index rfl rfl tabOk rfl rfl rfl (by omega) (by omega) ?_
      | refine ev_indexA rfl rfl tabOk rfl rfl rfl (by omega) (by omega) rfl ?_
      | refine ev_convB rfl rfl tabOk rfl rfl rfl rfl ?_
      | refine ev_conv rfl rfl tabOk rfl rfl rfl (by simp only [lowK, hiK]; omega) ?_)
    rw [wrapK (k := .i64) (x := 0 - (n + 1)) (by simp only [lowK, hiK]; omega)]
    repeat (first
      | refine stepF_ok tabOk [] (m := 400) rfl ?_
      | refine stepF_ok tabOk [] (m := 16) rfl ?_
      | refine stepF_ok tabOk [] (m := 3) rfl ?_
      | refine stepF_ok tabOk [] (m := 0) rfl ?_
      | refine ev_load rfl rfl tabOk rfl rfl (by assumption) ?_
      | refine ev_loadB rfl rfl tabOk rfl rfl (by assumption) (by rfl) ?_
      | refine ev_loadAggB rfl rfl tabOk rfl rfl (by assumption) (by rfl) ?_
      | refine ev_arith rfl rfl rfl rfl rfl (by simp only [lowK, hiK]; omega) ?_
      | refine ev_rem rfl rfl rfl rfl (by omega) (by omega) ?_
      | refine ev_quo rfl rfl rfl rfl (by omega) (by omega) (by simp only [hiK]; omega) ?_
      | refine ev_index rfl rfl tabOk rfl rfl rfl (by omega) (by omega) ?_
      | refine ev_indexA rfl rfl tabOk rfl rfl rfl (by omega) (by omega) rfl ?_
      | refine ev_convB rfl rfl tabOk rfl rfl rfl rfl ?_
      | refine ev_conv rfl rfl tabOk rfl rfl rfl (by simp only [lowK, hiK]; omega) ?_)
    have e : 2 * (0 - (n + 1)) + 1 = ((zz n : Nat) : Int) := by unfold zz; rw [if_pos h0]; omega
    rw [e]
    refine ev_call rfl rfl rfl (refGroups (zz n) _ (zz_lt h1 h2)) (fun r w' hr => ?_)
    obtain ⟨rfl, hf⟩ := hr
    repeat (first
      | refine stepF_ok tabOk [] (m := 400) rfl ?_
      | refine stepF_ok tabOk [] (m := 16) rfl ?_
      | refine stepF_ok tabOk [] (m := 3) rfl ?_
      | refine stepF_ok tabOk [] (m := 0) rfl ?_
      | refine ev_load rfl rfl tabOk rfl rfl (by assumption) ?_
      | refine ev_loadB rfl rfl tabOk rfl rfl (by assumption) (by rfl) ?_
      | refine ev_loadAggB rfl rfl tabOk rfl rfl (by assumption) (by rfl) ?_
      | refine ev_arith rfl rfl rfl rfl rfl (by simp only [lowK, hiK]; omega) ?_
      | refine ev_rem rfl rfl rfl rfl (by omega) (by omega) ?_
      | refine ev_quo rfl rfl rfl rfl (by omega) (by omega) (by simp only [hiK]; omega) ?_
      | refine ev_index rfl rfl tabOk rfl rfl rfl (by omega) (by omega) ?_
      | refine ev_indexA rfl rfl tabOk rfl rfl rfl (by omega) (by omega) rfl ?_
      | refine ev_convB rfl rfl tabOk rfl rfl rfl rfl ?_
      | refine ev_conv rfl rfl tabOk rfl rfl rfl (by simp only [lowK, hiK]; omega) ?_)
    exact ret1 (.inr rfl) rfl rfl ⟨rfl, hf⟩
  · repeat (first
      | refine stepF_ok tabOk [] (m := 400) rfl ?_
      | refine stepF_ok tabOk [] (m := 16) rfl ?_
      | refine stepF_ok tabOk [] (m := 3) rfl ?_
      | refine stepF_ok tabOk [] (m := 0) rfl ?_
      | refine ev_load rfl rfl tabOk rfl rfl (by assumption) ?_
      | refine ev_loadB rfl rfl tabOk rfl rfl (by assumption) (by rfl) ?_
      | refine ev_loadAggB rfl rfl tabOk rfl rfl (by assumption) (by rfl) ?_
      | refine ev_arith rfl rfl rfl rfl rfl (by simp only [lowK, hiK]; omega) ?_
      | refine ev_rem rfl rfl rfl rfl (by omega) (by omega) ?_
      | refine ev_quo rfl rfl rfl rfl (by omega) (by omega) (by simp only [hiK]; omega) ?_
      | refine ev_index rfl rfl tabOk rfl rfl rfl (by omega) (by omega) ?_
      | refine ev_indexA rfl rfl tabOk rfl rfl rfl (by omega) (by omega) rfl ?_
      | refine ev_convB rfl rfl tabOk rfl rfl rfl rfl ?_
      | refine ev_conv rfl rfl tabOk rfl rfl rfl (by simp only [lowK, hiK]; omega) ?_)
    have e : 2 * n = ((zz n : Nat) : Int) := by unfold zz; rw [if_neg h0]; omega
    rw [e]
    refine ev_call rfl rfl rfl (refGroups (zz n) _ (zz_lt h1 h2)) (fun r w' hr => ?_)
    obtain ⟨rfl, hf⟩ := hr
    repeat (first
      | refine stepF_ok tabOk [] (m := 400) rfl ?_
      | refine stepF_ok tabOk [] (m := 16) rfl ?_
      | refine stepF_ok tabOk [] (m := 3) rfl ?_
      | refine stepF_ok tabOk [] (m := 0) rfl ?_
      | refine ev_load rfl rfl tabOk rfl rfl (by assumption) ?_
      | refine ev_loadB rfl rfl tabOk rfl rfl (by assumption) (by rfl) ?_
      | refine ev_loadAggB rfl rfl tabOk rfl rfl (by assumption) (by rfl) ?_
      | refine ev_arith rfl rfl rfl rfl rfl (by simp only [lowK, hiK]; omega) ?_
      | refine ev_rem rfl rfl rfl rfl (by omega) (by omega) ?_
      | refine ev_quo rfl rfl rfl rfl (by omega) (by omega) (by simp only [hiK]; omega) ?_
      | refine ev_index rfl rfl tabOk rfl rfl rfl (by omega) (by omega) ?_
      | refine ev_indexA rfl rfl tabOk rfl rfl rfl (by omega) (by omega) rfl ?_
      | refine ev_convB rfl rfl tabOk rfl rfl rfl rfl ?_
      | refine ev_conv rfl rfl tabOk rfl rfl rfl (by simp only [lowK, hiK]; omega) ?_)
    exact ret1 (.inr rfl) rfl rfl ⟨rfl, hf⟩
end Go.Wk.Ytihjpjpellagiaa
