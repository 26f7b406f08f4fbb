/-
  The walks of the wire package: rows, raw bytes, texts.
-/
import Derived.Test.YtihjpjpellagiaaWireC
set_option linter.unusedVariables false
namespace Go.Wk.Ytihjpjpellagiaa
open Go Go.Wk Go.Proofs

/-- a number of 8 bits, as a value -/
abbrev iv (x : Int8) : Value := .int .i8 x.toInt
theorem iv_of (b : UInt8) : IntKind.i8.wrap (b.toNat : Int) = b.toInt8.toInt := by
  have h1 : b.toInt8.toInt = b.toBitVec.toInt := rfl
  have h2 : b.toBitVec.toNat = b.toNat := rfl
  rw [h1, BitVec.toInt_eq_toNat_cond, h2]
  have := b.toNat_lt
  simp [IntKind.wrap, IntKind.signed, IntKind.bits]
  split <;> split <;> omega
theorem bv_of (x : Int8) : IntKind.u8.wrap x.toInt = (x.toUInt8.toNat : Int) := by
  rw [wrap_u8]
  have h : x.toUInt8.toInt8 = x := by simp
  have h1 := iv_of x.toUInt8
  rw [h] at h1
  have := x.toUInt8.toNat_lt
  rw [← h1]
  simp [IntKind.wrap, IntKind.signed, IntKind.bits]
  split <;> omega

theorem rdRaw (p : Nat) (s : List UInt8) (i : Nat) (n : Int) (w : World) (h : Rd w p s i) (hi : i ≤ s.length) (hs : s.length ≤ 140737488355232) :
    CallsF Try.prog 36 [.pointer (some ⟨p, 0, none⟩), .int .i64 n] w fun v w' => v = .tuple #[.string (sOf (rrV s i n)), .int .i64 (rrE s i n)] ∧ Rd w' p s (rrA s i n) ∧ Fr (one p) w w' := by
  have bad : ∀ {e : Int}, e ≠ 0 → rrE s i n = e → rrV s i n = [] ∧ rrA s i n = i := fun h0 he => by
    unfold rrV rrA; rw [he, if_neg h0, if_neg h0]; exact ⟨rfl, rfl⟩
  refine callsF Try.func36 rfl rfl (by decide) rfl ?_
  repeat (first
    | refine stepF_ok tabOk [0] (m := 400) rfl ?_
    | refine stepF_ok tabOk [0] (m := 16) rfl ?_
    | refine stepF_ok tabOk [0] (m := 3) rfl ?_
    | refine stepF_ok tabOk [0] (m := 0) rfl ?_
    | refine ev_load rfl rfl tabOk rfl rfl (by assumption) ?_
    | refine ev_loadB rfl rfl tabOk rfl rfl (by assumption) (by rfl) ?_
    | refine ev_loadAggB rfl rfl tabOk rfl rfl (by assumption) (by rfl) ?_
    | refine ev_arith rfl rfl rfl rfl rfl (by simp only [lowK, hiK]; omega) ?_
    | refine ev_rem rfl rfl rfl rfl (by omega) (by omega) ?_
    | refine ev_quo rfl rfl rfl rfl (by omega) (by omega) (by simp only [hiK]; omega) ?_
    | refine ev_index rfl rfl tabOk rfl rfl rfl (by omega) (by omega) ?_
    | refine ev_indexA rfl rfl tabOk rfl rfl rfl (by omega) (by omega) rfl ?_
    | refine ev_convB rfl rfl tabOk rfl rfl rfl rfl ?_
    | refine ev_conv rfl rfl tabOk rfl rfl rfl (by simp only [lowK, hiK]; omega) ?_)
  refine ev_cut (α := Unit) (fun _ => [(0, .pointer (some ⟨p, 0, none⟩)), (1, .int .i64 n)]) (fun _ w' => Rd w' p s i ∧ Fr no w w' ∧ 0 ≤ n ∧ ¬ (s.length : Int) - i < n) ?_ ?_
  · repeat (first
      | refine stepF_ok tabOk [] (m := 400) rfl ?_
      | refine stepF_ok tabOk [] (m := 16) rfl ?_
      | refine stepF_ok tabOk [] (m := 3) rfl ?_
      | refine stepF_ok tabOk [] (m := 0) rfl ?_
      | refine ev_load rfl rfl tabOk rfl rfl (by assumption) ?_
      | refine ev_loadB rfl rfl tabOk rfl rfl (by assumption) (by rfl) ?_
      | refine ev_loadAggB rfl rfl tabOk rfl rfl (by assumption) (by rfl) ?_
      | refine ev_arith rfl rfl rfl rfl rfl (by simp only [lowK, hiK]; omega) ?_
      | refine ev_rem rfl rfl rfl rfl (by omega) (by omega) ?_
      | refine ev_quo rfl rfl rfl rfl (by omega) (by omega) (by simp only [hiK]; omega) ?_
      | refine ev_index rfl rfl tabOk rfl rfl rfl (by omega) (by omega) ?_
      | refine ev_indexA rfl rfl tabOk rfl rfl rfl (by omega) (by omega) rfl ?_
      | refine ev_convB rfl rfl tabOk rfl rfl rfl rfl ?_
      | refine ev_conv rfl rfl tabOk rfl rfl rfl (by simp only [lowK, hiK]; omega) ?_)
    refine ev_condD rfl (fun hp => ?_) (fun hp => ?_)
    · repeat (first
        | refine stepF_ok tabOk [] (m := 400) rfl ?_
        | refine stepF_ok tabOk [] (m := 16) rfl ?_
        | refine stepF_ok tabOk [] (m := 3) rfl ?_
        | refine stepF_ok tabOk [] (m := 0) rfl ?_
        | refine ev_load rfl rfl tabOk rfl rfl (by assumption) ?_
        | refine ev_loadB rfl rfl tabOk rfl rfl (by assumption) (by rfl) ?_
        | refine ev_loadAggB rfl rfl tabOk rfl rfl (by assumption) (by rfl) ?_
        | refine ev_arith rfl rfl rfl rfl rfl (by simp only [lowK, hiK]; omega) ?_
        | refine ev_rem rfl rfl rfl rfl (by omega) (by omega) ?_
        | refine ev_quo rfl rfl rfl rfl (by omega) (by omega) (by simp only [hiK]; omega) ?_
        | refine ev_index rfl rfl tabOk rfl rfl rfl (by omega) (by omega) ?_
        | refine ev_indexA rfl rfl tabOk rfl rfl rfl (by omega) (by omega) rfl ?_
        | refine ev_convB rfl rfl tabOk rfl rfl rfl rfl ?_
        | refine ev_conv rfl rfl tabOk rfl rfl rfl (by simp only [lowK, hiK]; omega) ?_)
      have e : rrE s i n = 1 := by unfold rrE; rw [if_pos hp]
      exact ret2 (.inr rfl) rfl rfl rfl ⟨by rw [e, (bad (by omega) e).1], h.of (bad (by omega) e).2.symm, Fr.refl _ _⟩
    repeat (first
      | refine stepF_ok tabOk [] (m := 400) rfl ?_
      | refine stepF_ok tabOk [] (m := 16) rfl ?_
      | refine stepF_ok tabOk [] (m := 3) rfl ?_
      | refine stepF_ok tabOk [] (m := 0) rfl ?_
      | refine ev_load rfl rfl tabOk rfl rfl (by assumption) ?_
      | refine ev_loadB rfl rfl tabOk rfl rfl (by assumption) (by rfl) ?_
      | refine ev_loadAggB rfl rfl tabOk rfl rfl (by assumption) (by rfl) ?_
      | refine ev_arith rfl rfl rfl rfl rfl (by simp only [lowK, hiK]; omega) ?_
      | refine ev_rem rfl rfl rfl rfl (by omega) (by omega) ?_
      | refine ev_quo rfl rfl rfl rfl (by omega) (by omega) (by simp only [hiK]; omega) ?_
      | refine ev_index rfl rfl tabOk rfl rfl rfl (by omega) (by omega) ?_
      | refine ev_indexA rfl rfl tabOk rfl rfl rfl (by omega) (by omega) rfl ?_
      | refine ev_convB rfl rfl tabOk rfl rfl rfl rfl ?_
      | refine ev_conv rfl rfl tabOk rfl rfl rfl (by simp only [lowK, hiK]; omega) ?_)
    refine ev_call rfl rfl rfl (left p s i _ h hi (by omega)) (fun r w' hr => ?_)
    obtain ⟨rfl, hf⟩ := hr
    repeat (first
      | refine stepF_ok tabOk [] (m := 400) rfl ?_
      | refine stepF_ok tabOk [] (m := 16) rfl ?_
      | refine stepF_ok tabOk [] (m := 3) rfl ?_
      | refine stepF_ok tabOk [] (m := 0) rfl ?_
      | refine ev_load rfl rfl tabOk rfl rfl (by assumption) ?_
      | refine ev_loadB rfl rfl tabOk rfl rfl (by assumption) (by rfl) ?_
      | refine ev_loadAggB rfl rfl tabOk rfl rfl (by assumption) (by rfl) ?_
      | refine ev_arith rfl rfl rfl rfl rfl (by simp only [lowK, hiK]; omega) ?_
      | refine ev_rem rfl rfl rfl rfl (by omega) (by omega) ?_
      | refine ev_quo rfl rfl rfl rfl (by omega) (by omega) (by simp only [hiK]; omega) ?_
      | refine ev_index rfl rfl tabOk rfl rfl rfl (by omega) (by omega) ?_
      | refine ev_indexA rfl rfl tabOk rfl rfl rfl (by omega) (by omega) rfl ?_
      | refine ev_convB rfl rfl tabOk rfl rfl rfl rfl ?_
      | refine ev_conv rfl rfl tabOk rfl rfl rfl (by simp only [lowK, hiK]; omega) ?_)
    refine ev_condD rfl (fun h1 => ?_) (fun h1 => ?_)
    · repeat (first
        | refine stepF_ok tabOk [] (m := 400) rfl ?_
        | refine stepF_ok tabOk [] (m := 16) rfl ?_
        | refine stepF_ok tabOk [] (m := 3) rfl ?_
        | refine stepF_ok tabOk [] (m := 0) rfl ?_
        | refine ev_load rfl rfl tabOk rfl rfl (by assumption) ?_
        | refine ev_loadB rfl rfl tabOk rfl rfl (by assumption) (by rfl) ?_
        | refine ev_loadAggB rfl rfl tabOk rfl rfl (by assumption) (by rfl) ?_
        | refine ev_arith rfl rfl rfl rfl rfl (by simp only [lowK, hiK]; omega) ?_
        | refine ev_rem rfl rfl rfl rfl (by omega) (by omega) ?_
        | refine ev_quo rfl rfl rfl rfl (by omega) (by omega) (by simp only [hiK]; omega) ?_
        | refine ev_index rfl rfl tabOk rfl rfl rfl (by omega) (by omega) ?_
        | refine ev_indexA rfl rfl tabOk rfl rfl rfl (by omega) (by omega) rfl ?_
        | refine ev_convB rfl rfl tabOk rfl rfl rfl rfl ?_
        | refine ev_conv rfl rfl tabOk rfl rfl rfl (by simp only [lowK, hiK]; omega) ?_)
      have e : rrE s i n = 11 := by unfold rrE; rw [if_neg hp, if_pos h1]
      exact ret2 (.inr rfl) rfl rfl rfl ⟨by rw [e, (bad (by omega) e).1], (h.fr0 hf).of (bad (by omega) e).2.symm, hf.mono fun _ _ x => x.elim⟩
    · repeat (first
        | refine stepF_ok tabOk [] (m := 400) rfl ?_
        | refine stepF_ok tabOk [] (m := 16) rfl ?_
        | refine stepF_ok tabOk [] (m := 3) rfl ?_
        | refine stepF_ok tabOk [] (m := 0) rfl ?_
        | refine ev_load rfl rfl tabOk rfl rfl (by assumption) ?_
        | refine ev_loadB rfl rfl tabOk rfl rfl (by assumption) (by rfl) ?_
        | refine ev_loadAggB rfl rfl tabOk rfl rfl (by assumption) (by rfl) ?_
        | refine ev_arith rfl rfl rfl rfl rfl (by simp only [lowK, hiK]; omega) ?_
        | refine ev_rem rfl rfl rfl rfl (by omega) (by omega) ?_
        | refine ev_quo rfl rfl rfl rfl (by omega) (by omega) (by simp only [hiK]; omega) ?_
        | refine ev_index rfl rfl tabOk rfl rfl rfl (by omega) (by omega) ?_
        | refine ev_indexA rfl rfl tabOk rfl rfl rfl (by omega) (by omega) rfl ?_
        | refine ev_convB rfl rfl tabOk rfl rfl rfl rfl ?_
        | refine ev_conv rfl rfl tabOk rfl rfl rfl (by simp only [lowK, hiK]; omega) ?_)
      exact ev_out () ⟨h.fr0 hf, hf, by omega, h1⟩ ⟨rfl, rfl, trivial⟩
  rintro _ w1 ⟨h, hf1, hp, h1⟩
  have c0 := h.c0; have c1 := h.c1
  repeat (first
    | refine stepF_ok tabOk [] (m := 400) rfl ?_
    | refine stepF_ok tabOk [] (m := 16) rfl ?_
    | refine stepF_ok tabOk [] (m := 3) rfl ?_
    | refine stepF_ok tabOk [] (m := 0) rfl ?_
    | refine ev_load rfl rfl tabOk rfl rfl (by assumption) ?_
    | refine ev_loadB rfl rfl tabOk rfl rfl (by assumption) (by rfl) ?_
    | refine ev_loadAggB rfl rfl tabOk rfl rfl (by assumption) (by rfl) ?_
    | refine ev_arith rfl rfl rfl rfl rfl (by simp only [lowK, hiK]; omega) ?_
    | refine ev_rem rfl rfl rfl rfl (by omega) (by omega) ?_
    | refine ev_quo rfl rfl rfl rfl (by omega) (by omega) (by simp only [hiK]; omega) ?_
    | refine ev_index rfl rfl tabOk rfl rfl rfl (by omega) (by omega) ?_
    | refine ev_indexA rfl rfl tabOk rfl rfl rfl (by omega) (by omega) rfl ?_
    | refine ev_convB rfl rfl tabOk rfl rfl rfl rfl ?_
    | refine ev_conv rfl rfl tabOk rfl rfl rfl (by simp only [lowK, hiK]; omega) ?_)
  refine ev_store tabOk rfl rfl rfl rfl rfl rfl h rfl (fun w3 hb hf3 => ?_)
  have d0 : w3.cell? ⟨p, 0, none⟩ = some (.string (sOf s)) := hb.cell rfl
  have d1 : w3.cell? ⟨p, 1, none⟩ = some (.int .i64 (i + n)) := hb.cell rfl
  clear c0 c1
  repeat (first
    | refine stepF_ok tabOk [] (m := 400) rfl ?_
    | refine stepF_ok tabOk [] (m := 16) rfl ?_
    | refine stepF_ok tabOk [] (m := 3) rfl ?_
    | refine stepF_ok tabOk [] (m := 0) rfl ?_
    | refine ev_load rfl rfl tabOk rfl rfl (by assumption) ?_
    | refine ev_loadB rfl rfl tabOk rfl rfl (by assumption) (by rfl) ?_
    | refine ev_loadAggB rfl rfl tabOk rfl rfl (by assumption) (by rfl) ?_
    | refine ev_arith rfl rfl rfl rfl rfl (by simp only [lowK, hiK]; omega) ?_
    | refine ev_rem rfl rfl rfl rfl (by omega) (by omega) ?_
    | refine ev_quo rfl rfl rfl rfl (by omega) (by omega) (by simp only [hiK]; omega) ?_
    | refine ev_index rfl rfl tabOk rfl rfl rfl (by omega) (by omega) ?_
    | refine ev_indexA rfl rfl tabOk rfl rfl rfl (by omega) (by omega) rfl ?_
    | refine ev_convB rfl rfl tabOk rfl rfl rfl rfl ?_
    | refine ev_conv rfl rfl tabOk rfl rfl rfl (by simp only [lowK, hiK]; omega) ?_)
  refine ev_draw mixed (by kernel_rfl) ?_
  repeat (first
    | refine stepQF_ok tabOk (m := 400) rfl ?_
    | refine stepQF_ok tabOk (m := 16) rfl ?_
    | refine stepQF_ok tabOk (m := 3) rfl ?_
    | refine stepQF_ok tabOk (m := 0) rfl ?_
    | refine q_load rfl rfl tabOk rfl rfl (fun _ hf => cell_fr (by assumption) hf id) ?_
    | refine q_arith rfl rfl rfl rfl rfl (by simp only [lowK, hiK]; omega) ?_
    | refine q_rem rfl rfl rfl rfl (by omega) (by omega) ?_
    | refine q_quo rfl rfl rfl rfl (by omega) (by omega) (by simp only [hiK]; omega) ?_
    | refine q_index rfl rfl tabOk rfl rfl rfl (by omega) (by omega) ?_
    | refine q_convB rfl rfl tabOk rfl rfl rfl rfl ?_
    | refine q_conv rfl rfl tabOk rfl rfl rfl (by simp only [lowK, hiK]; omega) ?_)
  refine q_sliceStr rfl rfl tabOk rfl rfl rfl rfl (by omega) (by omega) (by omega) ?_
  repeat (first
    | refine stepQF_ok tabOk (m := 400) rfl ?_
    | refine stepQF_ok tabOk (m := 16) rfl ?_
    | refine stepQF_ok tabOk (m := 3) rfl ?_
    | refine stepQF_ok tabOk (m := 0) rfl ?_
    | refine q_load rfl rfl tabOk rfl rfl (fun _ hf => cell_fr (by assumption) hf id) ?_
    | refine q_arith rfl rfl rfl rfl rfl (by simp only [lowK, hiK]; omega) ?_
    | refine q_rem rfl rfl rfl rfl (by omega) (by omega) ?_
    | refine q_quo rfl rfl rfl rfl (by omega) (by omega) (by simp only [hiK]; omega) ?_
    | refine q_index rfl rfl tabOk rfl rfl rfl (by omega) (by omega) ?_
    | refine q_convB rfl rfl tabOk rfl rfl rfl rfl ?_
    | refine q_conv rfl rfl tabOk rfl rfl rfl (by simp only [lowK, hiK]; omega) ?_)
  refine q_end fun w4 hf4 => ?_
  repeat (first
    | refine stepF_ok tabOk [] (m := 400) rfl ?_
    | refine stepF_ok tabOk [] (m := 16) rfl ?_
    | refine stepF_ok tabOk [] (m := 3) rfl ?_
    | refine stepF_ok tabOk [] (m := 0) rfl ?_
    | refine ev_load rfl rfl tabOk rfl rfl (by assumption) ?_
    | refine ev_loadB rfl rfl tabOk rfl rfl (by assumption) (by rfl) ?_
    | refine ev_loadAggB rfl rfl tabOk rfl rfl (by assumption) (by rfl) ?_
    | refine ev_arith rfl rfl rfl rfl rfl (by simp only [lowK, hiK]; omega) ?_
    | refine ev_rem rfl rfl rfl rfl (by omega) (by omega) ?_
    | refine ev_quo rfl rfl rfl rfl (by omega) (by omega) (by simp only [hiK]; omega) ?_
    | refine ev_index rfl rfl tabOk rfl rfl rfl (by omega) (by omega) ?_
    | refine ev_indexA rfl rfl tabOk rfl rfl rfl (by omega) (by omega) rfl ?_
    | refine ev_convB rfl rfl tabOk rfl rfl rfl rfl ?_
    | refine ev_conv rfl rfl tabOk rfl rfl rfl (by simp only [lowK, hiK]; omega) ?_)
  have e : rrE s i n = 0 := by unfold rrE; rw [if_neg (by omega), if_neg h1]
  have ha : rrA s i n = i + n.toNat := by unfold rrA; rw [if_pos e]
  refine ret2 (.inr rfl) rfl rfl rfl ⟨?_, ?_, (hf1.tr0 hf3).tr hf4⟩
  · rw [e]; unfold rrV; rw [if_pos e]
    have e1 : ((i : Int) + n - n).toNat = i := by omega
    have e2 : ((i : Int) + n).toNat = i + n.toNat := by omega
    rw [take_drop_cut, e1, e2, show i + n.toNat - i = n.toNat by omega]
  · have hat : ((i : Int) + n) = ((rrA s i n : Nat) : Int) := by rw [ha]; omega
    unfold Rd
    rw [← hat]; exact hb.fr0 hf4

theorem rdText (p : Nat) (s : List UInt8) (i : Nat) (most : Int) (w : World) (h : Rd w p s i) (hi : i ≤ s.length) (hs : s.length ≤ 140737488355232) :
    CallsF Try.prog 37 [.pointer (some ⟨p, 0, none⟩), .int .i64 most] w fun v w' => v = .tuple #[.string (sOf (rtV s i most)), .int .i64 (rtE s i most)] ∧ Rd w' p s (rtA s i most) ∧ Fr (one p) w w' := by
  have c0 := h.c0; have c1 := h.c1
  refine callsF Try.func37 rfl rfl (by decide) rfl ?_
  repeat (first
    | refine stepF_ok tabOk [] (m := 400) rfl ?_
    | refine stepF_ok tabOk [] (m := 16) rfl ?_
    | refine stepF_ok tabOk [] (m := 3) rfl ?_
    | refine stepF_ok tabOk [] (m := 0) rfl ?_
    | refine ev_load rfl rfl tabOk rfl rfl (by assumption) ?_
    | refine ev_loadB rfl rfl tabOk rfl rfl (by assumption) (by rfl) ?_
    | refine ev_loadAggB rfl rfl tabOk rfl rfl (by assumption) (by rfl) ?_
    | refine ev_arith rfl rfl rfl rfl rfl (by simp only [lowK, hiK]; omega) ?_
    | refine ev_rem rfl rfl rfl rfl (by omega) (by omega) ?_
    | refine ev_quo rfl rfl rfl rfl (by omega) (by omega) (by simp only [hiK]; omega) ?_
    | refine ev_index rfl rfl tabOk rfl rfl rfl (by omega) (by omega) ?_
    | refine ev_indexA rfl rfl tabOk rfl rfl rfl (by omega) (by omega) rfl ?_
    | refine ev_convB rfl rfl tabOk rfl rfl rfl rfl ?_
    | refine ev_conv rfl rfl tabOk rfl rfl rfl (by simp only [lowK, hiK]; omega) ?_)
  refine ev_condD rfl (fun hp => ?_) (fun hp => ?_)
  · repeat (first
      | refine stepF_ok tabOk [] (m := 400) rfl ?_
      | refine stepF_ok tabOk [] (m := 16) rfl ?_
      | refine stepF_ok tabOk [] (m := 3) rfl ?_
      | refine stepF_ok tabOk [] (m := 0) rfl ?_
      | refine ev_load rfl rfl tabOk rfl rfl (by assumption) ?_
      | refine ev_loadB rfl rfl tabOk rfl rfl (by assumption) (by rfl) ?_
      | refine ev_loadAggB rfl rfl tabOk rfl rfl (by assumption) (by rfl) ?_
      | refine ev_arith rfl rfl rfl rfl rfl (by simp only [lowK, hiK]; omega) ?_
      | refine ev_rem rfl rfl rfl rfl (by omega) (by omega) ?_
      | refine ev_quo rfl rfl rfl rfl (by omega) (by omega) (by simp only [hiK]; omega) ?_
      | refine ev_index rfl rfl tabOk rfl rfl rfl (by omega) (by omega) ?_
      | refine ev_indexA rfl rfl tabOk rfl rfl rfl (by omega) (by omega) rfl ?_
      | refine ev_convB rfl rfl tabOk rfl rfl rfl rfl ?_
      | refine ev_conv rfl rfl tabOk rfl rfl rfl (by simp only [lowK, hiK]; omega) ?_)
    have e : rtE s i most = 1 := by unfold rtE; rw [if_pos hp]
    have e1 : rtV s i most = [] := by unfold rtV; rw [e]; rfl
    have e2 : rtA s i most = i := by unfold rtA; rw [e]; rfl
    exact ret2 (.inr rfl) rfl rfl rfl ⟨by rw [e, e1], h.of e2.symm, Fr.refl _ _⟩
  repeat (first
    | refine stepF_ok tabOk [] (m := 400) rfl ?_
    | refine stepF_ok tabOk [] (m := 16) rfl ?_
    | refine stepF_ok tabOk [] (m := 3) rfl ?_
    | refine stepF_ok tabOk [] (m := 0) rfl ?_
    | refine ev_load rfl rfl tabOk rfl rfl (by assumption) ?_
    | refine ev_loadB rfl rfl tabOk rfl rfl (by assumption) (by rfl) ?_
    | refine ev_loadAggB rfl rfl tabOk rfl rfl (by assumption) (by rfl) ?_
    | refine ev_arith rfl rfl rfl rfl rfl (by simp only [lowK, hiK]; omega) ?_
    | refine ev_rem rfl rfl rfl rfl (by omega) (by omega) ?_
    | refine ev_quo rfl rfl rfl rfl (by omega) (by omega) (by simp only [hiK]; omega) ?_
    | refine ev_index rfl rfl tabOk rfl rfl rfl (by omega) (by omega) ?_
    | refine ev_indexA rfl rfl tabOk rfl rfl rfl (by omega) (by omega) rfl ?_
    | refine ev_convB rfl rfl tabOk rfl rfl rfl rfl ?_
    | refine ev_conv rfl rfl tabOk rfl rfl rfl (by simp only [lowK, hiK]; omega) ?_)
  refine ev_call rfl rfl rfl (rdNumber p s i 4 _ h hi (by omega)) (fun r w1 hr => ?_)
  obtain ⟨rfl, h, hf1⟩ := hr
  clear c0 c1
  have hi1 := rnA_le (bytes := 4) hi
  by_cases hE : rnE s i 4 = 0
  · have hmn : 0 ≤ rnV s i 4 := by unfold rnV; rw [if_pos hE]; omega
    have bad : rtE s i most ≠ 0 → rtV s i most = [] ∧ rtA s i most = i := fun he => by
      unfold rtV rtA; rw [if_neg he, if_neg he]; exact ⟨rfl, rfl⟩
    repeat (first
      | refine stepF_ok tabOk [] (m := 400) rfl ?_
      | refine stepF_ok tabOk [] (m := 16) rfl ?_
      | refine stepF_ok tabOk [] (m := 3) rfl ?_
      | refine stepF_ok tabOk [] (m := 0) rfl ?_
      | refine ev_load rfl rfl tabOk rfl rfl (by assumption) ?_
      | refine ev_loadB rfl rfl tabOk rfl rfl (by assumption) (by rfl) ?_
      | refine ev_loadAggB rfl rfl tabOk rfl rfl (by assumption) (by rfl) ?_
      | refine ev_arith rfl rfl rfl rfl rfl (by simp only [lowK, hiK]; omega) ?_
      | refine ev_rem rfl rfl rfl rfl (by omega) (by omega) ?_
      | refine ev_quo rfl rfl rfl rfl (by omega) (by omega) (by simp only [hiK]; omega) ?_
      | refine ev_index rfl rfl tabOk rfl rfl rfl (by omega) (by omega) ?_
      | refine ev_indexA rfl rfl tabOk rfl rfl rfl (by omega) (by omega) rfl ?_
      | refine ev_convB rfl rfl tabOk rfl rfl rfl rfl ?_
      | refine ev_conv rfl rfl tabOk rfl rfl rfl (by simp only [lowK, hiK]; omega) ?_)
    refine ev_guardD rfl rfl (fun _ => ?_) (fun hx => absurd hE hx)
    repeat (first
      | refine stepF_ok tabOk [] (m := 400) rfl ?_
      | refine stepF_ok tabOk [] (m := 16) rfl ?_
      | refine stepF_ok tabOk [] (m := 3) rfl ?_
      | refine stepF_ok tabOk [] (m := 0) rfl ?_
      | refine ev_load rfl rfl tabOk rfl rfl (by assumption) ?_
      | refine ev_loadB rfl rfl tabOk rfl rfl (by assumption) (by rfl) ?_
      | refine ev_loadAggB rfl rfl tabOk rfl rfl (by assumption) (by rfl) ?_
      | refine ev_arith rfl rfl rfl rfl rfl (by simp only [lowK, hiK]; omega) ?_
      | refine ev_rem rfl rfl rfl rfl (by omega) (by omega) ?_
      | refine ev_quo rfl rfl rfl rfl (by omega) (by omega) (by simp only [hiK]; omega) ?_
      | refine ev_index rfl rfl tabOk rfl rfl rfl (by omega) (by omega) ?_
      | refine ev_indexA rfl rfl tabOk rfl rfl rfl (by omega) (by omega) rfl ?_
      | refine ev_convB rfl rfl tabOk rfl rfl rfl rfl ?_
      | refine ev_conv rfl rfl tabOk rfl rfl rfl (by simp only [lowK, hiK]; omega) ?_)
    refine ev_condD rfl (fun hm => ?_) (fun hm => ?_)
    · have e : rtE s i most = 12 := by unfold rtE; rw [if_neg hp, if_neg (by simpa using hE), if_pos hm]
      repeat (first
        | refine stepF_ok tabOk [] (m := 400) rfl ?_
        | refine stepF_ok tabOk [] (m := 16) rfl ?_
        | refine stepF_ok tabOk [] (m := 3) rfl ?_
        | refine stepF_ok tabOk [] (m := 0) rfl ?_
        | refine ev_load rfl rfl tabOk rfl rfl (by assumption) ?_
        | refine ev_loadB rfl rfl tabOk rfl rfl (by assumption) (by rfl) ?_
        | refine ev_loadAggB rfl rfl tabOk rfl rfl (by assumption) (by rfl) ?_
        | refine ev_arith rfl rfl rfl rfl rfl (by simp only [lowK, hiK]; omega) ?_
        | refine ev_rem rfl rfl rfl rfl (by omega) (by omega) ?_
        | refine ev_quo rfl rfl rfl rfl (by omega) (by omega) (by simp only [hiK]; omega) ?_
        | refine ev_index rfl rfl tabOk rfl rfl rfl (by omega) (by omega) ?_
        | refine ev_indexA rfl rfl tabOk rfl rfl rfl (by omega) (by omega) rfl ?_
        | refine ev_convB rfl rfl tabOk rfl rfl rfl rfl ?_
        | refine ev_conv rfl rfl tabOk rfl rfl rfl (by simp only [lowK, hiK]; omega) ?_)
      refine ev_store tabOk rfl rfl rfl rfl rfl rfl h rfl (fun w3 hb hf3 => ?_)
      repeat (first
        | refine stepF_ok tabOk [] (m := 400) rfl ?_
        | refine stepF_ok tabOk [] (m := 16) rfl ?_
        | refine stepF_ok tabOk [] (m := 3) rfl ?_
        | refine stepF_ok tabOk [] (m := 0) rfl ?_
        | refine ev_load rfl rfl tabOk rfl rfl (by assumption) ?_
        | refine ev_loadB rfl rfl tabOk rfl rfl (by assumption) (by rfl) ?_
        | refine ev_loadAggB rfl rfl tabOk rfl rfl (by assumption) (by rfl) ?_
        | refine ev_arith rfl rfl rfl rfl rfl (by simp only [lowK, hiK]; omega) ?_
        | refine ev_rem rfl rfl rfl rfl (by omega) (by omega) ?_
        | refine ev_quo rfl rfl rfl rfl (by omega) (by omega) (by simp only [hiK]; omega) ?_
        | refine ev_index rfl rfl tabOk rfl rfl rfl (by omega) (by omega) ?_
        | refine ev_indexA rfl rfl tabOk rfl rfl rfl (by omega) (by omega) rfl ?_
        | refine ev_convB rfl rfl tabOk rfl rfl rfl rfl ?_
        | refine ev_conv rfl rfl tabOk rfl rfl rfl (by simp only [lowK, hiK]; omega) ?_)
      exact ret2 (.inr rfl) rfl rfl rfl ⟨by rw [e, (bad (by omega)).1], Rd.of hb (bad (by omega)).2.symm, hf1.trans hf3 fun _ _ x => x⟩
    · have e : rtE s i most = rrE s (rnA s i 4) (rnV s i 4) := by unfold rtE; rw [if_neg hp, if_neg (by simpa using hE), if_neg hm]
      repeat (first
        | refine stepF_ok tabOk [] (m := 400) rfl ?_
        | refine stepF_ok tabOk [] (m := 16) rfl ?_
        | refine stepF_ok tabOk [] (m := 3) rfl ?_
        | refine stepF_ok tabOk [] (m := 0) rfl ?_
        | refine ev_load rfl rfl tabOk rfl rfl (by assumption) ?_
        | refine ev_loadB rfl rfl tabOk rfl rfl (by assumption) (by rfl) ?_
        | refine ev_loadAggB rfl rfl tabOk rfl rfl (by assumption) (by rfl) ?_
        | refine ev_arith rfl rfl rfl rfl rfl (by simp only [lowK, hiK]; omega) ?_
        | refine ev_rem rfl rfl rfl rfl (by omega) (by omega) ?_
        | refine ev_quo rfl rfl rfl rfl (by omega) (by omega) (by simp only [hiK]; omega) ?_
        | refine ev_index rfl rfl tabOk rfl rfl rfl (by omega) (by omega) ?_
        | refine ev_indexA rfl rfl tabOk rfl rfl rfl (by omega) (by omega) rfl ?_
        | refine ev_convB rfl rfl tabOk rfl rfl rfl rfl ?_
        | refine ev_conv rfl rfl tabOk rfl rfl rfl (by simp only [lowK, hiK]; omega) ?_)
      refine ev_condD rfl (fun _ => ?_) (fun hx => absurd hE hx)
      repeat (first
        | refine stepF_ok tabOk [] (m := 400) rfl ?_
        | refine stepF_ok tabOk [] (m := 16) rfl ?_
        | refine stepF_ok tabOk [] (m := 3) rfl ?_
        | refine stepF_ok tabOk [] (m := 0) rfl ?_
        | refine ev_load rfl rfl tabOk rfl rfl (by assumption) ?_
        | refine ev_loadB rfl rfl tabOk rfl rfl (by assumption) (by rfl) ?_
        | refine ev_loadAggB rfl rfl tabOk rfl rfl (by assumption) (by rfl) ?_
        | refine ev_arith rfl rfl rfl rfl rfl (by simp only [lowK, hiK]; omega) ?_
        | refine ev_rem rfl rfl rfl rfl (by omega) (by omega) ?_
        | refine ev_quo rfl rfl rfl rfl (by omega) (by omega) (by simp only [hiK]; omega) ?_
        | refine ev_index rfl rfl tabOk rfl rfl rfl (by omega) (by omega) ?_
        | refine ev_indexA rfl rfl tabOk rfl rfl rfl (by omega) (by omega) rfl ?_
        | refine ev_convB rfl rfl tabOk rfl rfl rfl rfl ?_
        | refine ev_conv rfl rfl tabOk rfl rfl rfl (by simp only [lowK, hiK]; omega) ?_)
      refine ev_call rfl rfl rfl (rdRaw p s _ _ _ h hi1 (by omega)) (fun r w2 hr => ?_)
      obtain ⟨rfl, h, hf2⟩ := hr
      repeat (first
        | refine stepF_ok tabOk [] (m := 400) rfl ?_
        | refine stepF_ok tabOk [] (m := 16) rfl ?_
        | refine stepF_ok tabOk [] (m := 3) rfl ?_
        | refine stepF_ok tabOk [] (m := 0) rfl ?_
        | refine ev_load rfl rfl tabOk rfl rfl (by assumption) ?_
        | refine ev_loadB rfl rfl tabOk rfl rfl (by assumption) (by rfl) ?_
        | refine ev_loadAggB rfl rfl tabOk rfl rfl (by assumption) (by rfl) ?_
        | refine ev_arith rfl rfl rfl rfl rfl (by simp only [lowK, hiK]; omega) ?_
        | refine ev_rem rfl rfl rfl rfl (by omega) (by omega) ?_
        | refine ev_quo rfl rfl rfl rfl (by omega) (by omega) (by simp only [hiK]; omega) ?_
        | refine ev_index rfl rfl tabOk rfl rfl rfl (by omega) (by omega) ?_
        | refine ev_indexA rfl rfl tabOk rfl rfl rfl (by omega) (by omega) rfl ?_
        | refine ev_convB rfl rfl tabOk rfl rfl rfl rfl ?_
        | refine ev_conv rfl rfl tabOk rfl rfl rfl (by simp only [lowK, hiK]; omega) ?_)
      refine ev_condD rfl (fun h1 => ?_) (fun h1 => ?_)
      · repeat (first
          | refine stepF_ok tabOk [] (m := 400) rfl ?_
          | refine stepF_ok tabOk [] (m := 16) rfl ?_
          | refine stepF_ok tabOk [] (m := 3) rfl ?_
          | refine stepF_ok tabOk [] (m := 0) rfl ?_
          | refine ev_load rfl rfl tabOk rfl rfl (by assumption) ?_
          | refine ev_loadB rfl rfl tabOk rfl rfl (by assumption) (by rfl) ?_
          | refine ev_loadAggB rfl rfl tabOk rfl rfl (by assumption) (by rfl) ?_
          | refine ev_arith rfl rfl rfl rfl rfl (by simp only [lowK, hiK]; omega) ?_
          | refine ev_rem rfl rfl rfl rfl (by omega) (by omega) ?_
          | refine ev_quo rfl rfl rfl rfl (by omega) (by omega) (by simp only [hiK]; omega) ?_
          | refine ev_index rfl rfl tabOk rfl rfl rfl (by omega) (by omega) ?_
          | refine ev_indexA rfl rfl tabOk rfl rfl rfl (by omega) (by omega) rfl ?_
          | refine ev_convB rfl rfl tabOk rfl rfl rfl rfl ?_
          | refine ev_conv rfl rfl tabOk rfl rfl rfl (by simp only [lowK, hiK]; omega) ?_)
        refine ev_store tabOk rfl rfl rfl rfl rfl rfl h rfl (fun w3 hb hf3 => ?_)
        repeat (first
          | refine stepF_ok tabOk [] (m := 400) rfl ?_
          | refine stepF_ok tabOk [] (m := 16) rfl ?_
          | refine stepF_ok tabOk [] (m := 3) rfl ?_
          | refine stepF_ok tabOk [] (m := 0) rfl ?_
          | refine ev_load rfl rfl tabOk rfl rfl (by assumption) ?_
          | refine ev_loadB rfl rfl tabOk rfl rfl (by assumption) (by rfl) ?_
          | refine ev_loadAggB rfl rfl tabOk rfl rfl (by assumption) (by rfl) ?_
          | refine ev_arith rfl rfl rfl rfl rfl (by simp only [lowK, hiK]; omega) ?_
          | refine ev_rem rfl rfl rfl rfl (by omega) (by omega) ?_
          | refine ev_quo rfl rfl rfl rfl (by omega) (by omega) (by simp only [hiK]; omega) ?_
          | refine ev_index rfl rfl tabOk rfl rfl rfl (by omega) (by omega) ?_
          | refine ev_indexA rfl rfl tabOk rfl rfl rfl (by omega) (by omega) rfl ?_
          | refine ev_convB rfl rfl tabOk rfl rfl rfl rfl ?_
          | refine ev_conv rfl rfl tabOk rfl rfl rfl (by simp only [lowK, hiK]; omega) ?_)
        have e0 : rrV s (rnA s i 4) (rnV s i 4) = [] := by unfold rrV; rw [if_neg h1]
        refine ret2 (.inr rfl) rfl rfl rfl ⟨by rw [e, (bad (by rw [e]; exact h1)).1, e0], Rd.of hb (bad (by rw [e]; exact h1)).2.symm, (hf1.trans hf2 fun _ _ x => x).trans hf3 fun _ _ x => x⟩
      · repeat (first
          | refine stepF_ok tabOk [] (m := 400) rfl ?_
          | refine stepF_ok tabOk [] (m := 16) rfl ?_
          | refine stepF_ok tabOk [] (m := 3) rfl ?_
          | refine stepF_ok tabOk [] (m := 0) rfl ?_
          | refine ev_load rfl rfl tabOk rfl rfl (by assumption) ?_
          | refine ev_loadB rfl rfl tabOk rfl rfl (by assumption) (by rfl) ?_
          | refine ev_loadAggB rfl rfl tabOk rfl rfl (by assumption) (by rfl) ?_
          | refine ev_arith rfl rfl rfl rfl rfl (by simp only [lowK, hiK]; omega) ?_
          | refine ev_rem rfl rfl rfl rfl (by omega) (by omega) ?_
          | refine ev_quo rfl rfl rfl rfl (by omega) (by omega) (by simp only [hiK]; omega) ?_
          | refine ev_index rfl rfl tabOk rfl rfl rfl (by omega) (by omega) ?_
          | refine ev_indexA rfl rfl tabOk rfl rfl rfl (by omega) (by omega) rfl ?_
          | refine ev_convB rfl rfl tabOk rfl rfl rfl rfl ?_
          | refine ev_conv rfl rfl tabOk rfl rfl rfl (by simp only [lowK, hiK]; omega) ?_)
        have h1' : rrE s (rnA s i 4) (rnV s i 4) = 0 := Classical.not_not.1 h1
        refine ret2 (.inr rfl) rfl rfl rfl ⟨by rw [e]; unfold rtV; rw [if_pos (e ▸ h1')], h.of ?_, hf1.trans hf2 fun _ _ x => x⟩
        unfold rtA; rw [if_pos (e ▸ h1')]
  · have e : rtE s i most = rnE s i 4 := by unfold rtE; rw [if_neg hp, if_pos hE]
    have bad : rtV s i most = [] ∧ rtA s i most = i := by
      unfold rtV rtA; rw [e, if_neg hE, if_neg hE]; exact ⟨rfl, rfl⟩
    repeat (first
      | refine stepF_ok tabOk [] (m := 400) rfl ?_
      | refine stepF_ok tabOk [] (m := 16) rfl ?_
      | refine stepF_ok tabOk [] (m := 3) rfl ?_
      | refine stepF_ok tabOk [] (m := 0) rfl ?_
      | refine ev_load rfl rfl tabOk rfl rfl (by assumption) ?_
      | refine ev_loadB rfl rfl tabOk rfl rfl (by assumption) (by rfl) ?_
      | refine ev_loadAggB rfl rfl tabOk rfl rfl (by assumption) (by rfl) ?_
      | refine ev_arith rfl rfl rfl rfl rfl (by simp only [lowK, hiK]; omega) ?_
      | refine ev_rem rfl rfl rfl rfl (by omega) (by omega) ?_
      | refine ev_quo rfl rfl rfl rfl (by omega) (by omega) (by simp only [hiK]; omega) ?_
      | refine ev_index rfl rfl tabOk rfl rfl rfl (by omega) (by omega) ?_
      | refine ev_indexA rfl rfl tabOk rfl rfl rfl (by omega) (by omega) rfl ?_
      | refine ev_convB rfl rfl tabOk rfl rfl rfl rfl ?_
      | refine ev_conv rfl rfl tabOk rfl rfl rfl (by simp only [lowK, hiK]; omega) ?_)
    refine ev_guardD rfl rfl (fun hx => absurd hx hE) (fun _ => ?_)
    repeat (first
      | refine stepF_ok tabOk [] (m := 400) rfl ?_
      | refine stepF_ok tabOk [] (m := 16) rfl ?_
      | refine stepF_ok tabOk [] (m := 3) rfl ?_
      | refine stepF_ok tabOk [] (m := 0) rfl ?_
      | refine ev_load rfl rfl tabOk rfl rfl (by assumption) ?_
      | refine ev_loadB rfl rfl tabOk rfl rfl (by assumption) (by rfl) ?_
      | refine ev_loadAggB rfl rfl tabOk rfl rfl (by assumption) (by rfl) ?_
      | refine ev_arith rfl rfl rfl rfl rfl (by simp only [lowK, hiK]; omega) ?_
      | refine ev_rem rfl rfl rfl rfl (by omega) (by omega) ?_
      | refine ev_quo rfl rfl rfl rfl (by omega) (by omega) (by simp only [hiK]; omega) ?_
      | refine ev_index rfl rfl tabOk rfl rfl rfl (by omega) (by omega) ?_
      | refine ev_indexA rfl rfl tabOk rfl rfl rfl (by omega) (by omega) rfl ?_
      | refine ev_convB rfl rfl tabOk rfl rfl rfl rfl ?_
      | refine ev_conv rfl rfl tabOk rfl rfl rfl (by simp only [lowK, hiK]; omega) ?_)
    refine ev_condD rfl (fun hx => absurd hx hE) (fun _ => ?_)
    repeat (first
      | refine stepF_ok tabOk [] (m := 400) rfl ?_
      | refine stepF_ok tabOk [] (m := 16) rfl ?_
      | refine stepF_ok tabOk [] (m := 3) rfl ?_
      | refine stepF_ok tabOk [] (m := 0) rfl ?_
      | refine ev_load rfl rfl tabOk rfl rfl (by assumption) ?_
      | refine ev_loadB rfl rfl tabOk rfl rfl (by assumption) (by rfl) ?_
      | refine ev_loadAggB rfl rfl tabOk rfl rfl (by assumption) (by rfl) ?_
      | refine ev_arith rfl rfl rfl rfl rfl (by simp only [lowK, hiK]; omega) ?_
      | refine ev_rem rfl rfl rfl rfl (by omega) (by omega) ?_
      | refine ev_quo rfl rfl rfl rfl (by omega) (by omega) (by simp only [hiK]; omega) ?_
      | refine ev_index rfl rfl tabOk rfl rfl rfl (by omega) (by omega) ?_
      | refine ev_indexA rfl rfl tabOk rfl rfl rfl (by omega) (by omega) rfl ?_
      | refine ev_convB rfl rfl tabOk rfl rfl rfl rfl ?_
      | refine ev_conv rfl rfl tabOk rfl rfl rfl (by simp only [lowK, hiK]; omega) ?_)
    refine ev_condD rfl (fun _ => ?_) (fun hx => absurd hE hx)
    repeat (first
      | refine stepF_ok tabOk [] (m := 400) rfl ?_
      | refine stepF_ok tabOk [] (m := 16) rfl ?_
      | refine stepF_ok tabOk [] (m := 3) rfl ?_
      | refine stepF_ok tabOk [] (m := 0) rfl ?_
      | refine ev_load rfl rfl tabOk rfl rfl (by assumption) ?_
      | refine ev_loadB rfl rfl tabOk rfl rfl (by assumption) (by rfl) ?_
      | refine ev_loadAggB rfl rfl tabOk rfl rfl (by assumption) (by rfl) ?_
      | refine ev_arith rfl rfl rfl rfl rfl (by simp only [lowK, hiK]; omega) ?_
      | refine ev_rem rfl rfl rfl rfl (by omega) (by omega) ?_
      | refine ev_quo rfl rfl rfl rfl (by omega) (by omega) (by simp only [hiK]; omega) ?_
      | refine ev_index rfl rfl tabOk rfl rfl rfl (by omega) (by omega) ?_
      | refine ev_indexA rfl rfl tabOk rfl rfl rfl (by omega) (by omega) rfl ?_
      | refine ev_convB rfl rfl tabOk rfl rfl rfl rfl ?_
      | refine ev_conv rfl rfl tabOk rfl rfl rfl (by simp only [lowK, hiK]; omega) ?_)
    refine ev_store tabOk rfl rfl rfl rfl rfl rfl h rfl (fun w3 hb hf3 => ?_)
    repeat (first
      | refine stepF_ok tabOk [] (m := 400) rfl ?_
      | refine stepF_ok tabOk [] (m := 16) rfl ?_
      | refine stepF_ok tabOk [] (m := 3) rfl ?_
      | refine stepF_ok tabOk [] (m := 0) rfl ?_
      | refine ev_load rfl rfl tabOk rfl rfl (by assumption) ?_
      | refine ev_loadB rfl rfl tabOk rfl rfl (by assumption) (by rfl) ?_
      | refine ev_loadAggB rfl rfl tabOk rfl rfl (by assumption) (by rfl) ?_
      | refine ev_arith rfl rfl rfl rfl rfl (by simp only [lowK, hiK]; omega) ?_
      | refine ev_rem rfl rfl rfl rfl (by omega) (by omega) ?_
      | refine ev_quo rfl rfl rfl rfl (by omega) (by omega) (by simp only [hiK]; omega) ?_
      | refine ev_index rfl rfl tabOk rfl rfl rfl (by omega) (by omega) ?_
      | refine ev_indexA rfl rfl tabOk rfl rfl rfl (by omega) (by omega) rfl ?_
      | refine ev_convB rfl rfl tabOk rfl rfl rfl rfl ?_
      | refine ev_conv rfl rfl tabOk rfl rfl rfl (by simp only [lowK, hiK]; omega) ?_)
    exact ret2 (.inr rfl) rfl rfl rfl ⟨by rw [e, bad.1], Rd.of hb bad.2.symm, hf1.trans hf3 fun _ _ x => x⟩

theorem rdRow (p : Nat) (s : List UInt8) (i : Nat) (n : Int) (w : World) (h : Rd w p s i) (hi : i ≤ s.length) (hs : s.length ≤ 140737488355232) :
    CallsF Try.prog 19 [.pointer (some ⟨p, 0, none⟩), .int .i64 n] w fun v w' => ∃ x : Value, v = .tuple #[x, .int .i64 (rrE s i n)] ∧ Own w' 37 1 x (rrV s i n).length ((rrV s i n).map fun b => iv b.toInt8) ∧
      (∀ g, x.ownBlock = some g → w.heap.size ≤ g) ∧ Rd w' p s (rrA s i n) ∧ Fr (one p) w w' := by
  refine callsF Try.func19 rfl rfl (by decide) rfl ?_
  repeat (first
    | refine stepF_ok tabOk [] (m := 400) rfl ?_
    | refine stepF_ok tabOk [] (m := 16) rfl ?_
    | refine stepF_ok tabOk [] (m := 3) rfl ?_
    | refine stepF_ok tabOk [] (m := 0) rfl ?_
    | refine ev_load rfl rfl tabOk rfl rfl (by assumption) ?_
    | refine ev_loadB rfl rfl tabOk rfl rfl (by assumption) (by rfl) ?_
    | refine ev_loadAggB rfl rfl tabOk rfl rfl (by assumption) (by rfl) ?_
    | refine ev_arith rfl rfl rfl rfl rfl (by simp only [lowK, hiK]; omega) ?_
    | refine ev_rem rfl rfl rfl rfl (by omega) (by omega) ?_
    | refine ev_quo rfl rfl rfl rfl (by omega) (by omega) (by simp only [hiK]; omega) ?_
    | refine ev_index rfl rfl tabOk rfl rfl rfl (by omega) (by omega) ?_
    | refine ev_indexA rfl rfl tabOk rfl rfl rfl (by omega) (by omega) rfl ?_
    | refine ev_convB rfl rfl tabOk rfl rfl rfl rfl ?_
    | refine ev_conv rfl rfl tabOk rfl rfl rfl (by simp only [lowK, hiK]; omega) ?_)
  refine ev_call rfl rfl rfl (rdRaw p s _ _ _ h hi (by omega)) (fun r w1 hr => ?_)
  obtain ⟨rfl, h, hf1⟩ := hr
  generalize hl : rrV s i n = l at *
  have hll : l.length ≤ 140737488355232 := by
    rw [← hl]; unfold rrV; split <;> simp [cut]; omega
  repeat (first
    | refine stepF_ok tabOk [] (m := 400) rfl ?_
    | refine stepF_ok tabOk [] (m := 16) rfl ?_
    | refine stepF_ok tabOk [] (m := 3) rfl ?_
    | refine stepF_ok tabOk [] (m := 0) rfl ?_
    | refine ev_load rfl rfl tabOk rfl rfl (by assumption) ?_
    | refine ev_loadB rfl rfl tabOk rfl rfl (by assumption) (by rfl) ?_
    | refine ev_loadAggB rfl rfl tabOk rfl rfl (by assumption) (by rfl) ?_
    | refine ev_arith rfl rfl rfl rfl rfl (by simp only [lowK, hiK]; omega) ?_
    | refine ev_rem rfl rfl rfl rfl (by omega) (by omega) ?_
    | refine ev_quo rfl rfl rfl rfl (by omega) (by omega) (by simp only [hiK]; omega) ?_
    | refine ev_index rfl rfl tabOk rfl rfl rfl (by omega) (by omega) ?_
    | refine ev_indexA rfl rfl tabOk rfl rfl rfl (by omega) (by omega) rfl ?_
    | refine ev_convB rfl rfl tabOk rfl rfl rfl rfl ?_
    | refine ev_conv rfl rfl tabOk rfl rfl rfl (by simp only [lowK, hiK]; omega) ?_)
  refine ev_condD rfl (fun h1 => ?_) (fun h1 => ?_)
  · repeat (first
      | refine stepF_ok tabOk [] (m := 400) rfl ?_
      | refine stepF_ok tabOk [] (m := 16) rfl ?_
      | refine stepF_ok tabOk [] (m := 3) rfl ?_
      | refine stepF_ok tabOk [] (m := 0) rfl ?_
      | refine ev_load rfl rfl tabOk rfl rfl (by assumption) ?_
      | refine ev_loadB rfl rfl tabOk rfl rfl (by assumption) (by rfl) ?_
      | refine ev_loadAggB rfl rfl tabOk rfl rfl (by assumption) (by rfl) ?_
      | refine ev_arith rfl rfl rfl rfl rfl (by simp only [lowK, hiK]; omega) ?_
      | refine ev_rem rfl rfl rfl rfl (by omega) (by omega) ?_
      | refine ev_quo rfl rfl rfl rfl (by omega) (by omega) (by simp only [hiK]; omega) ?_
      | refine ev_index rfl rfl tabOk rfl rfl rfl (by omega) (by omega) ?_
      | refine ev_indexA rfl rfl tabOk rfl rfl rfl (by omega) (by omega) rfl ?_
      | refine ev_convB rfl rfl tabOk rfl rfl rfl rfl ?_
      | refine ev_conv rfl rfl tabOk rfl rfl rfl (by simp only [lowK, hiK]; omega) ?_)
    have e0 : l = [] := by rw [← hl]; unfold rrV; rw [if_neg h1]
    subst e0
    exact ret2 (.inr rfl) rfl rfl rfl ⟨.slice none 0 0, rfl, Own.nil _ _ _, fun g hg => by simp [Value.ownBlock] at hg, h, hf1⟩
  repeat (first
    | refine stepF_ok tabOk [] (m := 400) rfl ?_
    | refine stepF_ok tabOk [] (m := 16) rfl ?_
    | refine stepF_ok tabOk [] (m := 3) rfl ?_
    | refine stepF_ok tabOk [] (m := 0) rfl ?_
    | refine ev_load rfl rfl tabOk rfl rfl (by assumption) ?_
    | refine ev_loadB rfl rfl tabOk rfl rfl (by assumption) (by rfl) ?_
    | refine ev_loadAggB rfl rfl tabOk rfl rfl (by assumption) (by rfl) ?_
    | refine ev_arith rfl rfl rfl rfl rfl (by simp only [lowK, hiK]; omega) ?_
    | refine ev_rem rfl rfl rfl rfl (by omega) (by omega) ?_
    | refine ev_quo rfl rfl rfl rfl (by omega) (by omega) (by simp only [hiK]; omega) ?_
    | refine ev_index rfl rfl tabOk rfl rfl rfl (by omega) (by omega) ?_
    | refine ev_indexA rfl rfl tabOk rfl rfl rfl (by omega) (by omega) rfl ?_
    | refine ev_convB rfl rfl tabOk rfl rfl rfl rfl ?_
    | refine ev_conv rfl rfl tabOk rfl rfl rfl (by simp only [lowK, hiK]; omega) ?_)
  refine ev_make tabOk rfl rfl rfl inf37 rfl rfl (by omega) (by omega) (by omega) (fun q w2 hq hb hf2 => ?_)
  have e1 : (madeCells (Value.cells (.int .i8 0)) (((l.length : Int)).toNat * 1)).toList = List.replicate l.length (.int .i8 0) := by
    rw [Int.toNat_natCast, Nat.mul_one]; exact toList_madeCells_one _ _
  rw [e1] at hb
  have hpq : p ≠ q := fun e => by have := h.lt; omega
  repeat (first
    | refine stepF_ok tabOk [] (m := 400) rfl ?_
    | refine stepF_ok tabOk [] (m := 16) rfl ?_
    | refine stepF_ok tabOk [] (m := 3) rfl ?_
    | refine stepF_ok tabOk [] (m := 0) rfl ?_
    | refine ev_load rfl rfl tabOk rfl rfl (by assumption) ?_
    | refine ev_loadB rfl rfl tabOk rfl rfl (by assumption) (by rfl) ?_
    | refine ev_loadAggB rfl rfl tabOk rfl rfl (by assumption) (by rfl) ?_
    | refine ev_arith rfl rfl rfl rfl rfl (by simp only [lowK, hiK]; omega) ?_
    | refine ev_rem rfl rfl rfl rfl (by omega) (by omega) ?_
    | refine ev_quo rfl rfl rfl rfl (by omega) (by omega) (by simp only [hiK]; omega) ?_
    | refine ev_index rfl rfl tabOk rfl rfl rfl (by omega) (by omega) ?_
    | refine ev_indexA rfl rfl tabOk rfl rfl rfl (by omega) (by omega) rfl ?_
    | refine ev_convB rfl rfl tabOk rfl rfl rfl rfl ?_
    | refine ev_conv rfl rfl tabOk rfl rfl rfl (by simp only [lowK, hiK]; omega) ?_)
  refine ev_loop (α := Nat) (fun k => [(6, .string (sOf l)), (7, .int .i64 (rrE s i n)), (8, .slice (some ⟨q, 0, none⟩) ((l.length : Int)).toNat ((l.length : Int)).toNat), (23, .int .i64 l.length), (24, .int .i64 k)])
    (fun k w' => k ≤ l.length ∧ Rd w' p s (rrA s i n) ∧ Blk w' q ((l.take k).map (fun b => iv b.toInt8) ++ List.replicate (l.length - k) (.int .i8 0)) 37 ∧ Fr (one p) w w') (fun k => l.length - k) 0
    ⟨rfl, rfl, rfl, rfl, rfl, trivial⟩ ⟨Nat.zero_le _, h.fr0 hf2, by simpa using hb, hf1.tr hf2⟩ ?_
  rintro k w3 ⟨hk, h, hb, hf3⟩
  repeat (first
    | refine stepF_ok tabOk [] (m := 400) rfl ?_
    | refine stepF_ok tabOk [] (m := 16) rfl ?_
    | refine stepF_ok tabOk [] (m := 3) rfl ?_
    | refine stepF_ok tabOk [] (m := 0) rfl ?_
    | refine ev_load rfl rfl tabOk rfl rfl (by assumption) ?_
    | refine ev_loadB rfl rfl tabOk rfl rfl (by assumption) (by rfl) ?_
    | refine ev_loadAggB rfl rfl tabOk rfl rfl (by assumption) (by rfl) ?_
    | refine ev_arith rfl rfl rfl rfl rfl (by simp only [lowK, hiK]; omega) ?_
    | refine ev_rem rfl rfl rfl rfl (by omega) (by omega) ?_
    | refine ev_quo rfl rfl rfl rfl (by omega) (by omega) (by simp only [hiK]; omega) ?_
    | refine ev_index rfl rfl tabOk rfl rfl rfl (by omega) (by omega) ?_
    | refine ev_indexA rfl rfl tabOk rfl rfl rfl (by omega) (by omega) rfl ?_
    | refine ev_convB rfl rfl tabOk rfl rfl rfl rfl ?_
    | refine ev_conv rfl rfl tabOk rfl rfl rfl (by simp only [lowK, hiK]; omega) ?_)
  refine ev_condD rfl (fun hlt => ?_) (fun hlt => ?_)
  · repeat (first
      | refine stepF_ok tabOk [] (m := 400) rfl ?_
      | refine stepF_ok tabOk [] (m := 16) rfl ?_
      | refine stepF_ok tabOk [] (m := 3) rfl ?_
      | refine stepF_ok tabOk [] (m := 0) rfl ?_
      | refine ev_load rfl rfl tabOk rfl rfl (by assumption) ?_
      | refine ev_loadB rfl rfl tabOk rfl rfl (by assumption) (by rfl) ?_
      | refine ev_loadAggB rfl rfl tabOk rfl rfl (by assumption) (by rfl) ?_
      | refine ev_arith rfl rfl rfl rfl rfl (by simp only [lowK, hiK]; omega) ?_
      | refine ev_rem rfl rfl rfl rfl (by omega) (by omega) ?_
      | refine ev_quo rfl rfl rfl rfl (by omega) (by omega) (by simp only [hiK]; omega) ?_
      | refine ev_index rfl rfl tabOk rfl rfl rfl (by omega) (by omega) ?_
      | refine ev_indexA rfl rfl tabOk rfl rfl rfl (by omega) (by omega) rfl ?_
      | refine ev_convB rfl rfl tabOk rfl rfl rfl rfl ?_
      | refine ev_conv rfl rfl tabOk rfl rfl rfl (by simp only [lowK, hiK]; omega) ?_)
    refine ev_convW rfl rfl tabOk rfl rfl rfl ?_
    refine ev_indexAddr rfl rfl tabOk rfl rfl rfl (by omega) (by omega) ?_
    refine ev_store tabOk rfl rfl rfl rfl rfl rfl hb (blt_of (by simp; omega)) (fun w4 hb4 hf4 => ?_)
    have hk1 : k < l.length := by omega
    have e2 : setV ((l.take k).map (fun b => iv b.toInt8) ++ List.replicate (l.length - k) (Value.int .i8 0)) (0 + (k : Int).toNat * 1) (.int .i8 (IntKind.i8.wrap ((l.getD (k : Int).toNat 0).toNat : Int))) =
        (l.take (k + 1)).map (fun b => iv b.toInt8) ++ List.replicate (l.length - (k + 1)) (.int .i8 0) := by
      rw [setV_eq, iv_of, take_snoc hk1, List.map_append, List.append_assoc]
      have e3 : 0 + (k : Int).toNat * 1 = ((l.take k).map (fun b => iv b.toInt8)).length + 0 := by simp; omega
      rw [e3, List.set_append_right _ _ (by omega), Nat.add_sub_cancel_left]
      congr 1
      have e4 : l.length - k = (l.length - (k + 1)) + 1 := by omega
      rw [e4, List.replicate_succ]
      rfl
    rw [e2] at hb4
    repeat (first
      | refine stepF_ok tabOk [] (m := 400) rfl ?_
      | refine stepF_ok tabOk [] (m := 16) rfl ?_
      | refine stepF_ok tabOk [] (m := 3) rfl ?_
      | refine stepF_ok tabOk [] (m := 0) rfl ?_
      | refine ev_load rfl rfl tabOk rfl rfl (by assumption) ?_
      | refine ev_loadB rfl rfl tabOk rfl rfl (by assumption) (by rfl) ?_
      | refine ev_loadAggB rfl rfl tabOk rfl rfl (by assumption) (by rfl) ?_
      | refine ev_arith rfl rfl rfl rfl rfl (by simp only [lowK, hiK]; omega) ?_
      | refine ev_rem rfl rfl rfl rfl (by omega) (by omega) ?_
      | refine ev_quo rfl rfl rfl rfl (by omega) (by omega) (by simp only [hiK]; omega) ?_
      | refine ev_index rfl rfl tabOk rfl rfl rfl (by omega) (by omega) ?_
      | refine ev_indexA rfl rfl tabOk rfl rfl rfl (by omega) (by omega) rfl ?_
      | refine ev_convB rfl rfl tabOk rfl rfl rfl rfl ?_
      | refine ev_conv rfl rfl tabOk rfl rfl rfl (by simp only [lowK, hiK]; omega) ?_)
    exact ev_next (k + 1) (by omega) ⟨by omega, h.fr hf4 hpq, hb4, hf3.trans hf4 (fun b hb e => by have := hf1.size; omega)⟩ ⟨rfl, rfl, rfl, rfl, rfl, trivial⟩
  · have hk' : k = l.length := by omega
    subst hk'
    have hE : rrE s i n = 0 := Classical.not_not.1 h1
    repeat (first
      | refine stepF_ok tabOk [] (m := 400) rfl ?_
      | refine stepF_ok tabOk [] (m := 16) rfl ?_
      | refine stepF_ok tabOk [] (m := 3) rfl ?_
      | refine stepF_ok tabOk [] (m := 0) rfl ?_
      | refine ev_load rfl rfl tabOk rfl rfl (by assumption) ?_
      | refine ev_loadB rfl rfl tabOk rfl rfl (by assumption) (by rfl) ?_
      | refine ev_loadAggB rfl rfl tabOk rfl rfl (by assumption) (by rfl) ?_
      | refine ev_arith rfl rfl rfl rfl rfl (by simp only [lowK, hiK]; omega) ?_
      | refine ev_rem rfl rfl rfl rfl (by omega) (by omega) ?_
      | refine ev_quo rfl rfl rfl rfl (by omega) (by omega) (by simp only [hiK]; omega) ?_
      | refine ev_index rfl rfl tabOk rfl rfl rfl (by omega) (by omega) ?_
      | refine ev_indexA rfl rfl tabOk rfl rfl rfl (by omega) (by omega) rfl ?_
      | refine ev_convB rfl rfl tabOk rfl rfl rfl rfl ?_
      | refine ev_conv rfl rfl tabOk rfl rfl rfl (by simp only [lowK, hiK]; omega) ?_)
    refine ret2 (.inr rfl) rfl rfl rfl ⟨_, by rw [hE], ?_, fun g hg => ?_, h, hf3⟩
    · rw [Int.toNat_natCast]
      refine own_of_blk (by simpa using hb) (by simp) (by omega)
    · simp only [Value.ownBlock, Option.some.injEq] at hg
      have := hf1.size; omega

/-- what is written of a row -/
def rowB (l : List Int8) : List UInt8 := l.map Int8.toUInt8

theorem wrRow (p : Nat) (v : Value) (bs : List UInt8) (A : Option Addr) (c : Nat) (l : List Int8) (w : World) (h : Wr w p v bs) (hs : bs.length + l.length ≤ 1000000000000)
    (hc : Cs w A (l.map iv)) (hA : l ≠ [] → ∀ a, A = some a → a.block ≠ p ∧ v.ownBlock ≠ some a.block) :
    CallsF Try.prog 22 [.pointer (some ⟨p, 0, none⟩), .slice A l.length c] w fun r w' => ∃ v', Wr w' p v' (bs ++ rowB l) ∧ Fr (WS p v) w w' ∧ NB w v v' := by
  refine callsF Try.func22 rfl rfl (by decide) rfl ?_
  repeat (first
    | refine stepF_ok tabOk [] (m := 400) rfl ?_
    | refine stepF_ok tabOk [] (m := 16) rfl ?_
    | refine stepF_ok tabOk [] (m := 3) rfl ?_
    | refine stepF_ok tabOk [] (m := 0) rfl ?_
    | refine ev_load rfl rfl tabOk rfl rfl (by assumption) ?_
    | refine ev_loadB rfl rfl tabOk rfl rfl (by assumption) (by rfl) ?_
    | refine ev_loadAggB rfl rfl tabOk rfl rfl (by assumption) (by rfl) ?_
    | refine ev_arith rfl rfl rfl rfl rfl (by simp only [lowK, hiK]; omega) ?_
    | refine ev_rem rfl rfl rfl rfl (by omega) (by omega) ?_
    | refine ev_quo rfl rfl rfl rfl (by omega) (by omega) (by simp only [hiK]; omega) ?_
    | refine ev_index rfl rfl tabOk rfl rfl rfl (by omega) (by omega) ?_
    | refine ev_indexA rfl rfl tabOk rfl rfl rfl (by omega) (by omega) rfl ?_
    | refine ev_convB rfl rfl tabOk rfl rfl rfl rfl ?_
    | refine ev_conv rfl rfl tabOk rfl rfl rfl (by simp only [lowK, hiK]; omega) ?_)
  refine ev_loop (α := Nat) (fun k => [(0, .pointer (some ⟨p, 0, none⟩)), (8, .slice A l.length c), (9, .int .i64 l.length), (10, .int .i64 k)])
    (fun k w1 => k ≤ l.length ∧ Cs w1 A (l.map iv) ∧ ∃ v1, Wr w1 p v1 (bs ++ rowB (l.take k)) ∧ Fr (WS p v) w w1 ∧ NB w v v1) (fun k => l.length - k) 0 ⟨rfl, rfl, rfl, rfl, trivial⟩
    ⟨Nat.zero_le _, hc, v, by simpa [rowB] using h, Fr.refl _ _, NB.refl _ _⟩ ?_
  rintro k w1 ⟨hk, hc1, v1, hw1, hf1, hn1⟩
  have c0 := hw1.c0
  repeat (first
    | refine stepF_ok tabOk [] (m := 400) rfl ?_
    | refine stepF_ok tabOk [] (m := 16) rfl ?_
    | refine stepF_ok tabOk [] (m := 3) rfl ?_
    | refine stepF_ok tabOk [] (m := 0) rfl ?_
    | refine ev_load rfl rfl tabOk rfl rfl (by assumption) ?_
    | refine ev_loadB rfl rfl tabOk rfl rfl (by assumption) (by rfl) ?_
    | refine ev_loadAggB rfl rfl tabOk rfl rfl (by assumption) (by rfl) ?_
    | refine ev_arith rfl rfl rfl rfl rfl (by simp only [lowK, hiK]; omega) ?_
    | refine ev_rem rfl rfl rfl rfl (by omega) (by omega) ?_
    | refine ev_quo rfl rfl rfl rfl (by omega) (by omega) (by simp only [hiK]; omega) ?_
    | refine ev_index rfl rfl tabOk rfl rfl rfl (by omega) (by omega) ?_
    | refine ev_indexA rfl rfl tabOk rfl rfl rfl (by omega) (by omega) rfl ?_
    | refine ev_convB rfl rfl tabOk rfl rfl rfl rfl ?_
    | refine ev_conv rfl rfl tabOk rfl rfl rfl (by simp only [lowK, hiK]; omega) ?_)
  refine ev_condD rfl (fun hlt => ?_) (fun hlt => ?_)
  · have hk1 : k < l.length := by omega
    obtain ⟨b, o, rfl, hcell⟩ := hc1 k (iv (l.getD k 0)) (by simp [hk1])
    repeat (first
      | refine stepF_ok tabOk [] (m := 400) rfl ?_
      | refine stepF_ok tabOk [] (m := 16) rfl ?_
      | refine stepF_ok tabOk [] (m := 3) rfl ?_
      | refine stepF_ok tabOk [] (m := 0) rfl ?_
      | refine ev_load rfl rfl tabOk rfl rfl (by assumption) ?_
      | refine ev_loadB rfl rfl tabOk rfl rfl (by assumption) (by rfl) ?_
      | refine ev_loadAggB rfl rfl tabOk rfl rfl (by assumption) (by rfl) ?_
      | refine ev_arith rfl rfl rfl rfl rfl (by simp only [lowK, hiK]; omega) ?_
      | refine ev_rem rfl rfl rfl rfl (by omega) (by omega) ?_
      | refine ev_quo rfl rfl rfl rfl (by omega) (by omega) (by simp only [hiK]; omega) ?_
      | refine ev_index rfl rfl tabOk rfl rfl rfl (by omega) (by omega) ?_
      | refine ev_indexA rfl rfl tabOk rfl rfl rfl (by omega) (by omega) rfl ?_
      | refine ev_convB rfl rfl tabOk rfl rfl rfl rfl ?_
      | refine ev_conv rfl rfl tabOk rfl rfl rfl (by simp only [lowK, hiK]; omega) ?_)
    refine ev_indexAddr rfl rfl tabOk rfl rfl rfl (by omega) (by omega) ?_
    have hcell' : w1.cell? ⟨b, o + (k : Int).toNat * 1, none⟩ = some (iv (l.getD k 0)) := by rw [Int.toNat_natCast, Nat.mul_one]; exact hcell
    repeat (first
      | refine stepF_ok tabOk [] (m := 400) rfl ?_
      | refine stepF_ok tabOk [] (m := 16) rfl ?_
      | refine stepF_ok tabOk [] (m := 3) rfl ?_
      | refine stepF_ok tabOk [] (m := 0) rfl ?_
      | refine ev_load rfl rfl tabOk rfl rfl (by assumption) ?_
      | refine ev_loadB rfl rfl tabOk rfl rfl (by assumption) (by rfl) ?_
      | refine ev_loadAggB rfl rfl tabOk rfl rfl (by assumption) (by rfl) ?_
      | refine ev_arith rfl rfl rfl rfl rfl (by simp only [lowK, hiK]; omega) ?_
      | refine ev_rem rfl rfl rfl rfl (by omega) (by omega) ?_
      | refine ev_quo rfl rfl rfl rfl (by omega) (by omega) (by simp only [hiK]; omega) ?_
      | refine ev_index rfl rfl tabOk rfl rfl rfl (by omega) (by omega) ?_
      | refine ev_indexA rfl rfl tabOk rfl rfl rfl (by omega) (by omega) rfl ?_
      | refine ev_convB rfl rfl tabOk rfl rfl rfl rfl ?_
      | refine ev_conv rfl rfl tabOk rfl rfl rfl (by simp only [lowK, hiK]; omega) ?_)
    refine ev_convW rfl rfl tabOk rfl rfl rfl ?_
    refine ev_append1 tabOk rfl rfl (fun _ => rfl) rfl rfl inf5 rfl (by omega) (fun _ => rfl) rfl rfl (by simp [Value.cells]) (by simp [flatV, Value.cells, Value.oneCell']) rfl hw1.2.1 ?_ (fun v2 w2 q ho hf hn => ?_)
    · simp [rowB]; omega
    repeat (first
      | refine stepF_ok tabOk [] (m := 400) rfl ?_
      | refine stepF_ok tabOk [] (m := 16) rfl ?_
      | refine stepF_ok tabOk [] (m := 3) rfl ?_
      | refine stepF_ok tabOk [] (m := 0) rfl ?_
      | refine ev_load rfl rfl tabOk rfl rfl (by assumption) ?_
      | refine ev_loadB rfl rfl tabOk rfl rfl (by assumption) (by rfl) ?_
      | refine ev_loadAggB rfl rfl tabOk rfl rfl (by assumption) (by rfl) ?_
      | refine ev_arith rfl rfl rfl rfl rfl (by simp only [lowK, hiK]; omega) ?_
      | refine ev_rem rfl rfl rfl rfl (by omega) (by omega) ?_
      | refine ev_quo rfl rfl rfl rfl (by omega) (by omega) (by simp only [hiK]; omega) ?_
      | refine ev_index rfl rfl tabOk rfl rfl rfl (by omega) (by omega) ?_
      | refine ev_indexA rfl rfl tabOk rfl rfl rfl (by omega) (by omega) rfl ?_
      | refine ev_convB rfl rfl tabOk rfl rfl rfl rfl ?_
      | refine ev_conv rfl rfl tabOk rfl rfl rfl (by simp only [lowK, hiK]; omega) ?_)
    refine ev_store tabOk rfl rfl rfl rfl rfl ?_ (hw1.blk hf) rfl (fun w3 hb hf2 => ?_)
    · rcases ho.2 with ⟨rfl, _⟩ | ⟨g, cap, cur, rfl, _⟩ <;> rfl
    have hq : flatV [Value.int .u8 (IntKind.u8.wrap (l.getD k 0).toInt)] = [(l.getD k 0).toUInt8].map bv := by
      rw [bv_of]; rfl
    rw [hq] at ho
    obtain ⟨h1, h2⟩ := hw1.put (cs := [(l.getD k 0).toUInt8]) ho (by simp; omega) (by simp) hf hn hb hf2
    have hW := hf1.trans h2 (WS_sub hn1)
    repeat (first
      | refine stepF_ok tabOk [] (m := 400) rfl ?_
      | refine stepF_ok tabOk [] (m := 16) rfl ?_
      | refine stepF_ok tabOk [] (m := 3) rfl ?_
      | refine stepF_ok tabOk [] (m := 0) rfl ?_
      | refine ev_load rfl rfl tabOk rfl rfl (by assumption) ?_
      | refine ev_loadB rfl rfl tabOk rfl rfl (by assumption) (by rfl) ?_
      | refine ev_loadAggB rfl rfl tabOk rfl rfl (by assumption) (by rfl) ?_
      | refine ev_arith rfl rfl rfl rfl rfl (by simp only [lowK, hiK]; omega) ?_
      | refine ev_rem rfl rfl rfl rfl (by omega) (by omega) ?_
      | refine ev_quo rfl rfl rfl rfl (by omega) (by omega) (by simp only [hiK]; omega) ?_
      | refine ev_index rfl rfl tabOk rfl rfl rfl (by omega) (by omega) ?_
      | refine ev_indexA rfl rfl tabOk rfl rfl rfl (by omega) (by omega) rfl ?_
      | refine ev_convB rfl rfl tabOk rfl rfl rfl rfl ?_
      | refine ev_conv rfl rfl tabOk rfl rfl rfl (by simp only [lowK, hiK]; omega) ?_)
    refine ev_next (k + 1) (by omega) ⟨by omega, hc.fr hW ?_, v2, ?_, hW, hn1.trans hn hf1.size⟩ ⟨rfl, rfl, rfl, rfl, trivial⟩
    · intro a ha hx
      obtain ⟨h3, h4⟩ := hA (fun e => by simp [e] at hk1) a ha
      rcases hx with hx | hx
      · exact h3 hx
      · exact h4 hx
    · have e : rowB (l.take (k + 1)) = rowB (l.take k) ++ [(l.getD k 0).toUInt8] := by
        unfold rowB
        rw [List.take_succ_eq_append_getElem hk1, List.map_append]
        simp only [List.map_cons, List.map_nil, List.getD_eq_getElem?_getD, List.getElem?_eq_getElem hk1, Option.getD_some]
      rw [e, ← List.append_assoc]; exact h1
  · have hk' : k = l.length := by omega
    subst hk'
    repeat (first
      | refine stepF_ok tabOk [] (m := 400) rfl ?_
      | refine stepF_ok tabOk [] (m := 16) rfl ?_
      | refine stepF_ok tabOk [] (m := 3) rfl ?_
      | refine stepF_ok tabOk [] (m := 0) rfl ?_
      | refine ev_load rfl rfl tabOk rfl rfl (by assumption) ?_
      | refine ev_loadB rfl rfl tabOk rfl rfl (by assumption) (by rfl) ?_
      | refine ev_loadAggB rfl rfl tabOk rfl rfl (by assumption) (by rfl) ?_
      | refine ev_arith rfl rfl rfl rfl rfl (by simp only [lowK, hiK]; omega) ?_
      | refine ev_rem rfl rfl rfl rfl (by omega) (by omega) ?_
      | refine ev_quo rfl rfl rfl rfl (by omega) (by omega) (by simp only [hiK]; omega) ?_
      | refine ev_index rfl rfl tabOk rfl rfl rfl (by omega) (by omega) ?_
      | refine ev_indexA rfl rfl tabOk rfl rfl rfl (by omega) (by omega) rfl ?_
      | refine ev_convB rfl rfl tabOk rfl rfl rfl rfl ?_
      | refine ev_conv rfl rfl tabOk rfl rfl rfl (by simp only [lowK, hiK]; omega) ?_)
    exact ret0 (.inl rfl) rfl ⟨v1, by rw [List.take_length] at hw1; exact hw1, hf1, hn1⟩

theorem wrText (p : Nat) (v : Value) (bs s : List UInt8) (w : World) (h : Wr w p v bs) (hs : bs.length ≤ 1000000000000) (hs2 : s.length ≤ 4294967295) :
    CallsF Try.prog 28 [.pointer (some ⟨p, 0, none⟩), .string (sOf s)] w fun r w' => r = .int .i64 0 ∧ ∃ v', Wr w' p v' (bs ++ (leB s.length 4 ++ s)) ∧ Fr (WS p v) w w' ∧ NB w v v' := by
  have hpw : (256 : Int) ^ (4 : Int).toNat = 4294967296 := by decide
  have hE : numE s.length 4 = 0 := by unfold numE; rw [if_pos (by omega), if_neg (by rw [hpw]; omega)]
  have hB : numB s.length 4 = leB s.length 4 := by unfold numB; rw [if_pos hE]; rfl
  refine callsF Try.func28 rfl rfl (by decide) rfl ?_
  repeat (first
    | refine stepF_ok tabOk [] (m := 400) rfl ?_
    | refine stepF_ok tabOk [] (m := 16) rfl ?_
    | refine stepF_ok tabOk [] (m := 3) rfl ?_
    | refine stepF_ok tabOk [] (m := 0) rfl ?_
    | refine ev_load rfl rfl tabOk rfl rfl (by assumption) ?_
    | refine ev_loadB rfl rfl tabOk rfl rfl (by assumption) (by rfl) ?_
    | refine ev_loadAggB rfl rfl tabOk rfl rfl (by assumption) (by rfl) ?_
    | refine ev_arith rfl rfl rfl rfl rfl (by simp only [lowK, hiK]; omega) ?_
    | refine ev_rem rfl rfl rfl rfl (by omega) (by omega) ?_
    | refine ev_quo rfl rfl rfl rfl (by omega) (by omega) (by simp only [hiK]; omega) ?_
    | refine ev_index rfl rfl tabOk rfl rfl rfl (by omega) (by omega) ?_
    | refine ev_indexA rfl rfl tabOk rfl rfl rfl (by omega) (by omega) rfl ?_
    | refine ev_convB rfl rfl tabOk rfl rfl rfl rfl ?_
    | refine ev_conv rfl rfl tabOk rfl rfl rfl (by simp only [lowK, hiK]; omega) ?_)
  refine ev_condD rfl (fun hx => ?_) (fun _ => ?_)
  · exfalso; omega
  repeat (first
    | refine stepF_ok tabOk [] (m := 400) rfl ?_
    | refine stepF_ok tabOk [] (m := 16) rfl ?_
    | refine stepF_ok tabOk [] (m := 3) rfl ?_
    | refine stepF_ok tabOk [] (m := 0) rfl ?_
    | refine ev_load rfl rfl tabOk rfl rfl (by assumption) ?_
    | refine ev_loadB rfl rfl tabOk rfl rfl (by assumption) (by rfl) ?_
    | refine ev_loadAggB rfl rfl tabOk rfl rfl (by assumption) (by rfl) ?_
    | refine ev_arith rfl rfl rfl rfl rfl (by simp only [lowK, hiK]; omega) ?_
    | refine ev_rem rfl rfl rfl rfl (by omega) (by omega) ?_
    | refine ev_quo rfl rfl rfl rfl (by omega) (by omega) (by simp only [hiK]; omega) ?_
    | refine ev_index rfl rfl tabOk rfl rfl rfl (by omega) (by omega) ?_
    | refine ev_indexA rfl rfl tabOk rfl rfl rfl (by omega) (by omega) rfl ?_
    | refine ev_convB rfl rfl tabOk rfl rfl rfl rfl ?_
    | refine ev_conv rfl rfl tabOk rfl rfl rfl (by simp only [lowK, hiK]; omega) ?_)
  refine ev_call rfl rfl rfl (wrNumber p v bs _ 4 _ h hs (by omega) (by omega)) (fun r w1 hr => ?_)
  obtain ⟨rfl, v1, hw1, hf1, hn1⟩ := hr
  rw [hB] at hw1
  repeat (first
    | refine stepF_ok tabOk [] (m := 400) rfl ?_
    | refine stepF_ok tabOk [] (m := 16) rfl ?_
    | refine stepF_ok tabOk [] (m := 3) rfl ?_
    | refine stepF_ok tabOk [] (m := 0) rfl ?_
    | refine ev_load rfl rfl tabOk rfl rfl (by assumption) ?_
    | refine ev_loadB rfl rfl tabOk rfl rfl (by assumption) (by rfl) ?_
    | refine ev_loadAggB rfl rfl tabOk rfl rfl (by assumption) (by rfl) ?_
    | refine ev_arith rfl rfl rfl rfl rfl (by simp only [lowK, hiK]; omega) ?_
    | refine ev_rem rfl rfl rfl rfl (by omega) (by omega) ?_
    | refine ev_quo rfl rfl rfl rfl (by omega) (by omega) (by simp only [hiK]; omega) ?_
    | refine ev_index rfl rfl tabOk rfl rfl rfl (by omega) (by omega) ?_
    | refine ev_indexA rfl rfl tabOk rfl rfl rfl (by omega) (by omega) rfl ?_
    | refine ev_convB rfl rfl tabOk rfl rfl rfl rfl ?_
    | refine ev_conv rfl rfl tabOk rfl rfl rfl (by simp only [lowK, hiK]; omega) ?_)
  refine ev_call rfl rfl rfl (wrRaw p v1 _ s _ hw1 (by simp [leB_len]; omega)) (fun r w2 hr => ?_)
  obtain ⟨v2, hw2, hf2, hn2⟩ := hr
  repeat (first
    | refine stepF_ok tabOk [] (m := 400) rfl ?_
    | refine stepF_ok tabOk [] (m := 16) rfl ?_
    | refine stepF_ok tabOk [] (m := 3) rfl ?_
    | refine stepF_ok tabOk [] (m := 0) rfl ?_
    | refine ev_load rfl rfl tabOk rfl rfl (by assumption) ?_
    | refine ev_loadB rfl rfl tabOk rfl rfl (by assumption) (by rfl) ?_
    | refine ev_loadAggB rfl rfl tabOk rfl rfl (by assumption) (by rfl) ?_
    | refine ev_arith rfl rfl rfl rfl rfl (by simp only [lowK, hiK]; omega) ?_
    | refine ev_rem rfl rfl rfl rfl (by omega) (by omega) ?_
    | refine ev_quo rfl rfl rfl rfl (by omega) (by omega) (by simp only [hiK]; omega) ?_
    | refine ev_index rfl rfl tabOk rfl rfl rfl (by omega) (by omega) ?_
    | refine ev_indexA rfl rfl tabOk rfl rfl rfl (by omega) (by omega) rfl ?_
    | refine ev_convB rfl rfl tabOk rfl rfl rfl rfl ?_
    | refine ev_conv rfl rfl tabOk rfl rfl rfl (by simp only [lowK, hiK]; omega) ?_)
  exact ret1 (.inr rfl) rfl rfl ⟨rfl, v2, by rw [← List.append_assoc]; exact hw2, hf1.trans hf2 (WS_sub hn1), hn1.trans hn2 hf1.size⟩
end Go.Wk.Ytihjpjpellagiaa
