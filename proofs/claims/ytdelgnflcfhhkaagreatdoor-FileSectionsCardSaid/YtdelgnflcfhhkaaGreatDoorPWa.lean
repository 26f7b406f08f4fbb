/-
  Taken for this seat out of Fnv.
-/
import Derived.Test.YtdelgnflcfhhkaaGreatDoorEvs
import Derived.Test.YtdelgnflcfhhkaaGreatDoorTab
import Derived.Test.YtdelgnflcfhhkaaGreatDoorPVo
set_option linter.unusedVariables false
namespace Go.Wk.YtdelgnflcfhhkaaGreatDoor
open Go Go.Wk Go.Proofs
/-- one byte of the digest -/
def fnvStep (n : Int) (c : UInt8) : Int := IntKind.u64.wrap (bits .xor .u64 n c.toNat * 1099511628211)
def fnvL (l : List UInt8) : Int := l.foldl fnvStep 14695981039346656037
theorem fnvL_snoc (l : List UInt8) (c : UInt8) : fnvL (l ++ [c]) = fnvStep (fnvL l) c := by simp [fnvL]
theorem take_snoc {l : List UInt8} {k : Nat} (h : k < l.length) : l.take (k + 1) = l.take k ++ [l.getD k 0] := by
  rw [List.take_succ_eq_append_getElem h]; simp [h]
theorem fnv (s : List UInt8) (w : World) (hs : s.length ≤ 140737488351232) : CallsF Tryz.prog 85 [.string (sOf s)] w fun v w' => v = .int .u64 (fnvL s) ∧ w' = w := by
  refine callsF Tryz.func85 rfl rfl (by decide) rfl ?_
  refine sA [] rfl ?_
  refine ev_loop (α := Nat) (fun k => [(0, .string (sOf s)), (3, .int .u64 (fnvL (s.take k))), (6, .int .i64 (s.length : Nat)), (7, .int .i64 k)]) (fun k w' => k ≤ s.length ∧ w' = w) (fun k => s.length - k) 0 ⟨rfl, rfl, rfl, rfl, trivial⟩ ⟨Nat.zero_le _, rfl⟩ ?_
  rintro k w' ⟨hk, rfl⟩
  refine sC [] rfl ?_; refine sD [] rfl ?_
  refine ev_condD rfl (fun h => ?_) (fun h => ?_)
  · refine sA [] rfl ?_; refine ev_index rfl rfl tabOk rfl rfl rfl (by omega) (by omega) ?_; refine ev_convB rfl rfl tabOk rfl rfl rfl rfl ?_; refine sA [] rfl ?_
    refine ev_arithW rfl rfl rfl rfl rfl ?_
    refine sA [] rfl ?_; refine ev_arith rfl rfl rfl rfl rfl (by simp only [lowK, hiK]; omega) ?_; refine sA [] rfl ?_
    refine ev_next (k + 1) (by omega) ⟨by omega, rfl⟩ ⟨rfl, ?_, rfl, rfl, trivial⟩
    rw [take_snoc (by omega), fnvL_snoc]
    rfl
  · refine sA [] rfl ?_
    exact ret1 (.inr rfl) rfl rfl ⟨by rw [List.take_of_length_le (by omega)], rfl⟩
theorem refFnv (s : List UInt8) (w : World) (hs : s.length ≤ 140737488351232) : CallsF Tryz.prog 92 [.string (sOf s)] w fun v w' => v = .int .u64 (fnvL s) ∧ w' = w := by
  refine callsF Tryz.func92 rfl rfl (by decide) rfl ?_
  refine sA [] rfl ?_
  refine ev_loop (α := Nat) (fun k => [(0, .string (sOf s)), (3, .int .u64 (fnvL (s.take k))), (4, .int .i64 k)]) (fun k w' => k ≤ s.length ∧ w' = w) (fun k => s.length - k) 0 ⟨rfl, rfl, rfl, trivial⟩ ⟨Nat.zero_le _, rfl⟩ ?_
  rintro k w' ⟨hk, rfl⟩
  refine sC [] rfl ?_; refine sC [] rfl ?_
  refine ev_condD rfl (fun h => ?_) (fun h => ?_)
  · refine sA [] rfl ?_; refine ev_index rfl rfl tabOk rfl rfl rfl (by omega) (by omega) ?_; refine ev_convB rfl rfl tabOk rfl rfl rfl rfl ?_; refine sA [] rfl ?_
    refine ev_arithW rfl rfl rfl rfl rfl ?_
    refine sA [] rfl ?_; refine ev_arith rfl rfl rfl rfl rfl (by simp only [lowK, hiK]; omega) ?_; refine sA [] rfl ?_
    refine ev_next (k + 1) (by omega) ⟨by omega, rfl⟩ ⟨rfl, ?_, rfl, trivial⟩
    rw [take_snoc (by omega), fnvL_snoc]
    rfl
  · refine sA [] rfl ?_
    exact ret1 (.inr rfl) rfl rfl ⟨by rw [List.take_of_length_le (by omega)], rfl⟩
end Go.Wk.YtdelgnflcfhhkaaGreatDoor
namespace Go.Wk.YtdelgnflcfhhkaaGreatDoor
open Go Go.Wk Go.Proofs
theorem isSize (x : Int) (w : World) : CallsF Tryz.prog 96 [.int .i64 x] w fun v w' => v = .bool (decide (x = 1 ∨ x = 2 ∨ x = 4 ∨ x = 8)) ∧ w' = w := by
  refine callsF Tryz.func96 rfl rfl (by decide) rfl ?_
  refine sA [] rfl ?_
  refine ev_y rfl rfl (y_build rfl (v := .agg #[.int .i64 1, .int .i64 2, .int .i64 4, .int .i64 8]) (fun w => by kernel_rfl)) ?_
  refine sA [] rfl ?_
  refine ev_rounds 5 ?_
  repeat
    repeat (first | refine sA [] rfl ?_ | refine sB [] rfl ?_ | refine sC [] rfl ?_ | refine sD [] rfl ?_ | refine ev_load rfl rfl tabOk rfl rfl ‹_› ?_ | refine ev_loadB rfl rfl tabOk rfl rfl ‹_› (by rfl) ?_ | refine ev_loadAggB rfl rfl tabOk rfl rfl ‹_› (by rfl) ?_ | refine ev_arith rfl rfl rfl rfl rfl (by simp only [lowK, hiK]; omega) ?_ | refine ev_rem rfl rfl rfl rfl (by omega) (by omega) ?_ | refine ev_quo rfl rfl rfl rfl (by omega) (by omega) (by simp only [hiK]; omega) ?_ | refine ev_index rfl rfl tabOk rfl rfl rfl (by omega) (by omega) ?_ | refine ev_indexA rfl rfl tabOk rfl rfl rfl (by omega) (by omega) rfl ?_ | refine ev_convB rfl rfl tabOk rfl rfl rfl rfl ?_ | refine ev_conv rfl rfl tabOk rfl rfl rfl (by simp only [lowK, hiK]; omega) ?_)
    refine ev_condD rfl (fun h => ?_) (fun h => ?_)
    · repeat (first | refine sA [] rfl ?_ | refine sB [] rfl ?_ | refine sC [] rfl ?_ | refine sD [] rfl ?_ | refine ev_load rfl rfl tabOk rfl rfl ‹_› ?_ | refine ev_loadB rfl rfl tabOk rfl rfl ‹_› (by rfl) ?_ | refine ev_loadAggB rfl rfl tabOk rfl rfl ‹_› (by rfl) ?_ | refine ev_arith rfl rfl rfl rfl rfl (by simp only [lowK, hiK]; omega) ?_ | refine ev_rem rfl rfl rfl rfl (by omega) (by omega) ?_ | refine ev_quo rfl rfl rfl rfl (by omega) (by omega) (by simp only [hiK]; omega) ?_ | refine ev_index rfl rfl tabOk rfl rfl rfl (by omega) (by omega) ?_ | refine ev_indexA rfl rfl tabOk rfl rfl rfl (by omega) (by omega) rfl ?_ | refine ev_convB rfl rfl tabOk rfl rfl rfl rfl ?_ | refine ev_conv rfl rfl tabOk rfl rfl rfl (by simp only [lowK, hiK]; omega) ?_)
      exact ret1 (.inr rfl) rfl rfl ⟨by congr 1; simp; omega, rfl⟩
  refine sA [] rfl ?_; refine ev_arith rfl rfl rfl rfl rfl (by simp only [lowK, hiK]; omega) ?_; refine sA [] rfl ?_
  exact ret1 (.inr rfl) rfl rfl ⟨by congr 1; simp; omega, rfl⟩
/-- a reader at block `p` -/
def Rd (w : World) (p : Nat) (s : List UInt8) (i : Nat) : Prop := Blk w p [.string (sOf s), .int .i64 i] 195
theorem Rd.c0 {w : World} {p : Nat} {s : List UInt8} {i : Nat} (h : Rd w p s i) : w.cell? ⟨p, 0, none⟩ = some (.string (sOf s)) := Blk.cell h rfl
theorem Rd.c1 {w : World} {p : Nat} {s : List UInt8} {i : Nat} (h : Rd w p s i) : w.cell? ⟨p, 1, none⟩ = some (.int .i64 i) := Blk.cell h rfl
theorem left (p : Nat) (s : List UInt8) (i : Nat) (w : World) (h : Rd w p s i) (hi : i ≤ s.length) (hs : s.length ≤ 9223372036854775807) :
    CallsF Tryz.prog 123 [.pointer (some ⟨p, 0, none⟩)] w fun v w' => v = .int .i64 (s.length - i) ∧ Fr no w w' := by
  have c0 := h.c0; have c1 := h.c1
  refine callsF Tryz.func123 rfl rfl (by decide) rfl ?_
  refine sA [] rfl ?_
  refine ev_draw mixed (by kernel_rfl) ?_
  refine qA rfl ?_; refine q_load rfl rfl tabOk rfl rfl (fun _ hf => cell_fr (by assumption) hf id) ?_; refine qA rfl ?_; refine q_load rfl rfl tabOk rfl rfl (fun _ hf => cell_fr (by assumption) hf id) ?_; refine q_arith rfl rfl rfl rfl rfl (by simp only [lowK, hiK]; omega) ?_; refine qA rfl ?_
  refine q_end fun w' hf => ?_
  refine sA [] rfl ?_
  exact ret1 (.inr rfl) rfl rfl ⟨rfl, hf⟩
theorem newReader (s : List UInt8) (w : World) :
    CallsF Tryz.prog 52 [.string (sOf s)] w fun v w' => ∃ p, v = .pointer (some ⟨p, 0, none⟩) ∧ w.heap.size ≤ p ∧ Rd w' p s 0 ∧ Fr no w w' := by
  refine callsF Tryz.func52 rfl rfl (by decide) rfl ?_
  refine sA [] rfl ?_
  refine ev_build rfl rfl (v := .agg #[.string (sOf s), .int .i64 0]) rfl (fun w => by kernel_rfl) ?_
  skip
  refine ev_box rfl rfl rfl (fun b w' hb hB hf => ?_)
  refine sA [] rfl ?_
  exact ret1 (.inr rfl) rfl rfl ⟨b, rfl, hb, hB, hf⟩
end Go.Wk.YtdelgnflcfhhkaaGreatDoor
namespace Go.Wk.YtdelgnflcfhhkaaGreatDoor
open Go Go.Wk Go.Proofs
/-- byte i of a number -/
def byteAt (n : Int) (i : Nat) : UInt8 := UInt8.ofNat (n / 256 ^ i % 256).toNat
/-- a number's first k bytes, the least first -/
def leB (n : Int) (k : Nat) : List UInt8 := (List.range k).map (byteAt n)
theorem leB_snoc (n : Int) (k : Nat) : leB n (k + 1) = leB n k ++ [byteAt n k] := by simp [leB, List.range_succ]
theorem leB_len (n : Int) (k : Nat) : (leB n k).length = k := by simp [leB]
theorem toNat_ofNat {m : Int} (h0 : 0 ≤ m) (h1 : m < 256) : ((UInt8.ofNat m.toNat).toNat : Int) = m := by
  have : (UInt8.ofNat m.toNat).toNat = m.toNat := by rw [UInt8.toNat_ofNat']; omega
  rw [this]; omega
theorem wrap_u8 (x : Int) : IntKind.u8.wrap x = x % 256 := by simp [IntKind.wrap, IntKind.signed, IntKind.bits]
theorem byteAt_val (n : Int) (i : Nat) : bv (byteAt n i) = .int .u8 (n / 256 ^ i % 256) := by
  unfold bv byteAt
  rw [toNat_ofNat (by omega) (by omega)]
theorem div_step (n : Int) (i : Nat) : n / 256 ^ i / 256 = n / 256 ^ (i + 1) := by
  rw [Int.pow_succ, Int.ediv_ediv_of_nonneg (Int.pow_nonneg (by omega))]
/-- a writer at block `p`: its row `v` holds `bs` -/
def Wr (w : World) (p : Nat) (v : Value) (bs : List UInt8) : Prop := Blk w p [v] 208 ∧ Own w 5 1 v bs.length (bs.map bv) ∧ v.ownBlock ≠ some p
/-- its blocks -/
def WrS (p : Nat) (v : Value) : Nat → Prop := fun b => b = p ∨ v.ownBlock = some b
theorem WrS_sub {w : World} {p : Nat} {v v1 : Value} (hn : NB w v v1) : ∀ b, b < w.heap.size → WrS p v1 b → WrS p v b := fun b hb h => by
  rcases h with h | h
  · exact .inl h
  · rcases hn b h with h1 | h1
    · exact .inr h1
    · omega
theorem Wr.c0 {w : World} {p : Nat} {v : Value} {bs : List UInt8} (h : Wr w p v bs) : w.cell? ⟨p, 0, none⟩ = some v := Blk.cell h.1 rfl
theorem Wr.fr {S : Nat → Prop} {w w' : World} {p : Nat} {v : Value} {bs : List UInt8} (h : Wr w p v bs) (hf : Fr S w w') (h1 : ¬ S p) (h2 : ∀ g, v.ownBlock = some g → ¬ S g) : Wr w' p v bs :=
  ⟨h.1.fr hf h1, h.2.1.fr hf h2, h.2.2⟩
theorem Wr.fr0 {w w' : World} {p : Nat} {v : Value} {bs : List UInt8} (h : Wr w p v bs) (hf : Fr no w w') : Wr w' p v bs := h.fr hf id fun _ _ => id
/-- the row grew into v', and v' was stored -/
theorem Wr.put {w w1 w2 : World} {p : Nat} {v v' : Value} {bs cs : List UInt8} {xs : List Value} {m : Nat} (h : Wr w p v bs) (ho : Own w1 5 1 v' m xs) (hm : m = (bs ++ cs).length) (hx : xs = (bs ++ cs).map bv)
    (hf : Fr (fun q => v.ownBlock = some q) w w1) (hn : NB w v v') (hb : Blk w2 p [v'] 208) (hf2 : Fr (fun c => c = p) w1 w2) : Wr w2 p v' (bs ++ cs) ∧ Fr (WrS p v) w w2 := by
  have hne : v'.ownBlock ≠ some p := fun e => by
    rcases hn p e with h1 | h1
    · exact h.2.2 h1
    · have := h.1.lt; omega
  subst hm; subst hx
  refine ⟨⟨hb, ho.fr hf2 (fun g hg e => hne (e ▸ hg)), hne⟩, ?_⟩
  exact (hf.mono fun b _ hb => .inr hb).trans hf2 fun b _ hb => .inl hb
theorem Wr.blk {w w1 : World} {p : Nat} {v : Value} {bs : List UInt8} (h : Wr w p v bs) (hf : Fr (fun q => v.ownBlock = some q) w w1) : Blk w1 p [v] 208 := h.1.fr hf h.2.2
theorem newWriter (w : World) : CallsF Tryz.prog 60 [] w fun r w' => ∃ p, r = .pointer (some ⟨p, 0, none⟩) ∧ w.heap.size ≤ p ∧ Wr w' p (.slice none 0 0) [] ∧ Fr no w w' := by
  refine callsF Tryz.func60 rfl rfl (by decide) rfl ?_
  refine sA [] rfl ?_
  refine ev_build rfl rfl (v := .agg #[.slice none 0 0]) rfl (fun w => by kernel_rfl) ?_
  skip
  refine ev_box rfl rfl rfl (fun b w' hb hB hf => ?_)
  refine sA [] rfl ?_
  exact ret1 (.inr rfl) rfl rfl ⟨b, rfl, hb, ⟨hB, Own.nil _ _ _, by simp [Value.ownBlock]⟩, hf⟩
theorem wrBytes (p : Nat) (v : Value) (bs : List UInt8) (w : World) (h : Wr w p v bs) : CallsF Tryz.prog 65 [.pointer (some ⟨p, 0, none⟩)] w fun r w' => r = .string (sOf bs) ∧ w' = w := by
  obtain ⟨A, c, rfl, hc, _⟩ := h.2.1.slice
  have c0 := h.c0
  refine callsF Tryz.func65 rfl rfl (by decide) rfl ?_
  refine sA [] rfl ?_; refine ev_load rfl rfl tabOk rfl rfl ‹_› ?_
  refine ev_strOf (bs := bs) rfl rfl tabOk rfl rfl rfl rfl hc ?_
  refine sA [] rfl ?_
  exact ret1 (.inr rfl) rfl rfl ⟨rfl, rfl⟩
theorem wrRaw (p : Nat) (v : Value) (bs s : List UInt8) (w : World) (h : Wr w p v bs) (hs : bs.length + s.length ≤ 140737488355328) :
    CallsF Tryz.prog 61 [.pointer (some ⟨p, 0, none⟩), .string (sOf s)] w fun r w' => ∃ v', Wr w' p v' (bs ++ s) ∧ Fr (WrS p v) w w' ∧ NB w v v' := by
  have c0 := h.c0
  refine callsF Tryz.func61 rfl rfl (by decide) rfl ?_
  refine sA [] rfl ?_; refine ev_load rfl rfl tabOk rfl rfl ‹_› ?_; refine sA [] rfl ?_
  refine ev_appendStr tabOk rfl rfl rfl rfl inf5 rfl rfl h.2.1 hs (fun v' w1 ho hf hn => ?_)
  have hn := NB.of hn
  refine sA [] rfl ?_
  refine ev_store tabOk rfl rfl rfl rfl rfl ?_ (h.blk hf) rfl (fun w2 hb hf2 => ?_)
  · rcases ho.2 with ⟨rfl, _⟩ | ⟨g, cap, cur, rfl, _⟩ <;> rfl
  refine sA [] rfl ?_
  obtain ⟨h1, h2⟩ := h.put (cs := s) ho (by simp) (by simp) hf hn hb hf2
  exact ret0 (.inl rfl) rfl ⟨v', h1, h2, hn⟩
/-- what a number's writing answers -/
def numE (n bytes : Int) : Int := if bytes = 1 ∨ bytes = 2 ∨ bytes = 4 ∨ bytes = 8 then (if n < 0 ∨ bytes < 8 ∧ 256 ^ bytes.toNat ≤ n then 10 else 0) else 1
def numB (n bytes : Int) : List UInt8 := if numE n bytes = 0 then leB n bytes.toNat else []
theorem pow_kinds {bytes : Int} (h : bytes = 1 ∨ bytes = 2 ∨ bytes = 4 ∨ bytes = 8) : (2 : Int) ^ (8 * bytes).toNat = 256 ^ bytes.toNat := by
  rcases h with rfl | rfl | rfl | rfl <;> decide
theorem shr_zero {n m : Int} (hn : 0 ≤ n) (hm : 0 < m) : n.fdiv m = 0 ↔ ¬ m ≤ n := by
  rw [Int.fdiv_eq_ediv_of_nonneg _ (by omega)]
  constructor
  · intro h; have := Int.lt_ediv_add_one_mul_self n hm; rw [h] at this; omega
  · intro h; exact Int.ediv_eq_zero_of_lt hn (by omega)
theorem wrNumber (p : Nat) (v : Value) (bs : List UInt8) (n bytes : Int) (w : World) (h : Wr w p v bs) (hs : bs.length ≤ 1000000000000) (hb1 : -9223372036854775808 ≤ n) (hb2 : n ≤ 9223372036854775807) :
    CallsF Tryz.prog 63 [.pointer (some ⟨p, 0, none⟩), .int .i64 n, .int .i64 bytes] w fun r w' => r = .int .i64 (numE n bytes) ∧ ∃ v', Wr w' p v' (bs ++ numB n bytes) ∧ Fr (WrS p v) w w' ∧ NB w v v' := by
  refine callsF Tryz.func63 rfl rfl (by decide) rfl ?_
  refine sA [0] rfl ?_
  refine ev_cut (α := Unit) (fun _ => [(0, .pointer (some ⟨p, 0, none⟩)), (1, .int .i64 n), (2, .int .i64 bytes)]) (fun _ w' => w' = w ∧ numE n bytes = 0 ∧ 0 ≤ n ∧ (bytes = 1 ∨ bytes = 2 ∨ bytes = 4 ∨ bytes = 8)) ?_ ?_
  · refine sA [] rfl ?_
    refine ev_call rfl rfl rfl (isSize _ _) (fun r w' hr => ?_)
    obtain ⟨rfl, rfl⟩ := hr
    refine sC [] rfl ?_
    refine ev_condND rfl (fun hp => ?_) (fun hp => ?_)
    · refine sA [] rfl ?_
      have e : numE n bytes = 1 := by unfold numE; rw [if_neg hp]
      exact ret1 (.inr rfl) rfl rfl ⟨by rw [e], v, by unfold numB; rw [e]; simpa using h, Fr.refl _ _, NB.refl _ _⟩
    refine sC [] rfl ?_; refine sD [] rfl ?_
    refine ev_guardD rfl rfl (fun h0 => ?_) (fun h0 => ?_)
    · refine sA [] rfl ?_
      have e : numE n bytes = 10 := by unfold numE; rw [if_pos hp, if_pos (.inl h0)]
      exact ret1 (.inr rfl) rfl rfl ⟨by rw [e], v, by unfold numB; rw [e]; simpa using h, Fr.refl _ _, NB.refl _ _⟩
    refine sD [] rfl ?_; refine sD [] rfl ?_; refine sD [] rfl ?_
    refine ev_guardD rfl rfl (fun h8 => ?_) (fun h8 => ?_)
    · refine sA [] rfl ?_; refine ev_arith rfl rfl rfl rfl rfl (by simp only [lowK, hiK]; omega) ?_
      refine ev_shr rfl rfl rfl rfl (by omega) (by simp only [IntKind.bits]; omega) ?_
      refine sC [] rfl ?_; refine sD [] rfl ?_
      have hpos : (0 : Int) < 256 ^ bytes.toNat := Int.pow_pos (by omega)
      refine ev_condD rfl (fun hz => ?_) (fun hz => ?_)
      all_goals rw [pow_kinds hp, shr_zero (by omega) hpos] at hz
      · refine sA [] rfl ?_
        have e : numE n bytes = 10 := by unfold numE; rw [if_pos hp, if_pos (.inr ⟨h8, by omega⟩)]
        exact ret1 (.inr rfl) rfl rfl ⟨by rw [e], v, by unfold numB; rw [e]; simpa using h, Fr.refl _ _, NB.refl _ _⟩
      · refine sA [] rfl ?_
        exact ev_out () ⟨rfl, by unfold numE; rw [if_pos hp, if_neg (by omega)], by omega, hp⟩ ⟨rfl, rfl, rfl, trivial⟩
    · refine sA [] rfl ?_
      exact ev_out () ⟨rfl, by unfold numE; rw [if_pos hp, if_neg (by omega)], by omega, hp⟩ ⟨rfl, rfl, rfl, trivial⟩
  rintro _ w' ⟨rfl, hE, hn, hp⟩
  refine sA [] rfl ?_
  refine ev_loop (α := Nat) (fun k => [(0, .pointer (some ⟨p, 0, none⟩)), (1, .int .i64 (n / 256 ^ k)), (29, .int .i64 bytes), (30, .int .i64 k)])
    (fun k w1 => k ≤ bytes.toNat ∧ ∃ v1, Wr w1 p v1 (bs ++ leB n k) ∧ Fr (WrS p v) w' w1 ∧ NB w' v v1) (fun k => bytes.toNat - k) 0 ⟨rfl, by simp [look], rfl, rfl, trivial⟩
    ⟨Nat.zero_le _, v, by simpa [leB] using h, Fr.refl _ _, NB.refl _ _⟩ ?_
  rintro k w1 ⟨hk, v1, hw1, hf1, hn1⟩
  have c0 := hw1.c0
  refine sC [] rfl ?_; refine sD [] rfl ?_
  refine ev_condD rfl (fun hlt => ?_) (fun hlt => ?_)
  · refine sA [] rfl ?_; refine ev_load rfl rfl tabOk rfl rfl ‹_› ?_; refine sA [] rfl ?_
    refine ev_convW rfl rfl tabOk rfl rfl rfl ?_
    refine ev_append1 tabOk rfl rfl (fun _ => rfl) rfl rfl inf5 rfl (by omega) (fun _ => rfl) rfl rfl (by simp [Value.cells]) (by simp [flatV, Value.cells, Value.oneCell']) rfl hw1.2.1 ?_ (fun v2 w2 q ho hf hn => ?_)
    · simp only [List.length_append, leB_len]; omega
    refine sA [] rfl ?_
    refine ev_store tabOk rfl rfl rfl rfl rfl ?_ (hw1.blk hf) rfl (fun w3 hb hf2 => ?_)
    · rcases ho.2 with ⟨rfl, _⟩ | ⟨g, cap, cur, rfl, _⟩ <;> rfl
    have hq : flatV [Value.int .u8 (IntKind.u8.wrap (n / 256 ^ k))] = [byteAt n k].map bv := by
      simp only [List.map_cons, List.map_nil, byteAt_val, wrap_u8]; rfl
    rw [hq] at ho
    obtain ⟨h1, h2⟩ := hw1.put (cs := [byteAt n k]) ho (by simp; omega) (by simp) hf hn hb hf2
    refine sA [] rfl ?_; refine ev_arith rfl rfl rfl rfl rfl (by simp only [lowK, hiK]; omega) ?_; refine sA [] rfl ?_
    refine ev_next (k + 1) (by omega) ⟨by omega, v2, by rw [leB_snoc, ← List.append_assoc]; exact h1, hf1.trans h2 (WrS_sub hn1), hn1.trans hn hf1.size⟩ ⟨rfl, ?_, rfl, rfl, trivial⟩
    show some (Value.int .i64 ((n / 256 ^ k).fdiv (2 ^ 8))) = _
    rw [Int.fdiv_eq_ediv_of_nonneg _ (by omega), ← div_step]; rfl
  · refine sA [] rfl ?_
    have hk' : k = bytes.toNat := by omega
    subst hk'
    refine ret1 (.inr rfl) rfl rfl ⟨by rw [hE], v1, ?_, hf1, hn1⟩
    unfold numB; rw [if_pos hE]; exact hw1
end Go.Wk.YtdelgnflcfhhkaaGreatDoor
namespace Go.Wk.YtdelgnflcfhhkaaGreatDoor
open Go Go.Wk
/-- a number's value, the least byte first -/
def leN : List UInt8 → Nat
  | [] => 0
  | b :: r => b.toNat + 256 * leN r
theorem leN_lt : ∀ (l : List UInt8), leN l < 256 ^ l.length
  | [] => by simp [leN]
  | b :: r => by
    have := leN_lt r
    have hb := b.toNat_lt
    simp only [leN, List.length_cons, Nat.pow_succ]
    omega
theorem leN_append : ∀ (l r : List UInt8), leN (l ++ r) = leN l + 256 ^ l.length * leN r
  | [], r => by simp [leN]
  | b :: l, r => by
    simp only [List.cons_append, leN, List.length_cons, Nat.pow_succ, leN_append l r, Nat.mul_add]
    rw [Nat.mul_comm (256 ^ l.length) 256, Nat.mul_assoc]
    omega
theorem leN_snoc (l : List UInt8) (b : UInt8) : leN (l ++ [b]) = leN l + 256 ^ l.length * b.toNat := by
  rw [leN_append]; simp [leN]
/-- the bytes from i on, k of them -/
def cut (s : List UInt8) (i k : Nat) : List UInt8 := (s.drop i).take k
theorem cut_len {s : List UInt8} {i k : Nat} (h : i + k ≤ s.length) : (cut s i k).length = k := by simp [cut]; omega
theorem cut_snoc {s : List UInt8} {i k : Nat} (h : i + k < s.length) : cut s i (k + 1) = cut s i k ++ [s.getD (i + k) 0] := by
  unfold cut
  rw [List.take_succ_eq_append_getElem (by simp; omega)]
  congr 1
  simp [List.getElem_drop, h]
theorem take_drop_cut (s : List UInt8) (i j : Nat) : (s.take j).drop i = cut s i (j - i) := by
  unfold cut; rw [List.drop_take]
theorem bits_or_nat {a b : Nat} (ha : a < 2 ^ 64) (hb : b < 2 ^ 64) : bits .or .u64 (a : Int) (b : Int) = ((a ||| b : Nat) : Int) := by
  show IntKind.u64.wrap (((BitVec.ofInt 64 (a : Int) ||| BitVec.ofInt 64 (b : Int) : BitVec 64).toNat : Nat) : Int) = _
  have h1 : (BitVec.ofInt 64 (a : Int)).toNat = a := by simp; omega
  have h2 : (BitVec.ofInt 64 (b : Int)).toNat = b := by simp; omega
  rw [BitVec.toNat_or, h1, h2]
  have h3 : a ||| b < 2 ^ 64 := Nat.or_lt_two_pow ha hb
  exact wrapK (k := .u64) (by simp only [lowK, hiK]; omega)
theorem or_step {a b k : Nat} (ha : a < 256 ^ k) (hb : b < 256) (hk : k < 8) : bits .or .u64 (a : Int) (IntKind.u64.wrap ((b : Int) * 2 ^ (8 * (k : Int)).toNat)) = ((a + 256 ^ k * b : Nat) : Int) := by
  have e1 : (2 : Nat) ^ (8 * k) = 256 ^ k := by rw [Nat.pow_mul]
  have e2 : (8 * (k : Int)).toNat = 8 * k := by omega
  have h8 : 256 ^ k ≤ 256 ^ 7 := Nat.pow_le_pow_right (by omega) (by omega)
  have hbk : b * 2 ^ (8 * k) < 2 ^ 64 := by
    rw [e1]
    have : b * 256 ^ k ≤ 255 * 256 ^ 7 := Nat.mul_le_mul (by omega) h8
    omega
  have e3 : ((b : Int) * 2 ^ (8 * (k : Int)).toNat) = ((b * 2 ^ (8 * k) : Nat) : Int) := by rw [e2]; simp
  rw [e3]
  have e4 : IntKind.u64.wrap ((b * 2 ^ (8 * k) : Nat) : Int) = ((b * 2 ^ (8 * k) : Nat) : Int) := wrapK (k := .u64) (by simp only [lowK, hiK]; omega)
  rw [e4, bits_or_nat (by omega) hbk]
  congr 1
  rw [Nat.or_comm, ← Nat.shiftLeft_eq, ← Nat.shiftLeft_add_eq_or_of_lt (by rw [e1]; exact ha), Nat.shiftLeft_eq, e1]
  rw [Nat.mul_comm]; omega
/-- what reading a number answers: what went wrong, the number, the new place -/
def rnE (s : List UInt8) (i : Nat) (bytes : Int) : Int :=
  if bytes = 1 ∨ bytes = 2 ∨ bytes = 4 ∨ bytes = 8 then (if (s.length : Int) - i < bytes then 11 else if 9223372036854775807 < leN (cut s i bytes.toNat) then 10 else 0) else 1
def rnV (s : List UInt8) (i : Nat) (bytes : Int) : Int := if rnE s i bytes = 0 then (leN (cut s i bytes.toNat) : Int) else 0
def rnA (s : List UInt8) (i : Nat) (bytes : Int) : Nat := if rnE s i bytes = 0 then i + bytes.toNat else i
/-- the same of raw bytes -/
def rrE (s : List UInt8) (i : Nat) (n : Int) : Int := if n < 0 then 1 else if (s.length : Int) - i < n then 11 else 0
def rrV (s : List UInt8) (i : Nat) (n : Int) : List UInt8 := if rrE s i n = 0 then cut s i n.toNat else []
def rrA (s : List UInt8) (i : Nat) (n : Int) : Nat := if rrE s i n = 0 then i + n.toNat else i
theorem rnA_le {s : List UInt8} {i : Nat} {bytes : Int} (h : i ≤ s.length) : rnA s i bytes ≤ s.length := by
  unfold rnA rnE
  by_cases h1 : bytes = 1 ∨ bytes = 2 ∨ bytes = 4 ∨ bytes = 8
  · rw [if_pos h1]
    by_cases h2 : (s.length : Int) - i < bytes
    · rw [if_pos h2]; simpa using h
    · rw [if_neg h2]
      split <;> simp <;> omega
  · rw [if_neg h1]; simpa using h
theorem rrA_le {s : List UInt8} {i : Nat} {n : Int} (h : i ≤ s.length) : rrA s i n ≤ s.length := by
  unfold rrA rrE
  by_cases h1 : n < 0
  · rw [if_pos h1]; simpa using h
  · rw [if_neg h1]
    by_cases h2 : (s.length : Int) - i < n
    · rw [if_pos h2]; simpa using h
    · rw [if_neg h2]; simp; omega
end Go.Wk.YtdelgnflcfhhkaaGreatDoor
namespace Go.Wk.YtdelgnflcfhhkaaGreatDoor
open Go Go.Wk Go.Proofs
theorem Rd.fr {S : Nat → Prop} {w w' : World} {p : Nat} {s : List UInt8} {i : Nat} (h : Rd w p s i) (hf : Fr S w w') (hn : ¬ S p) : Rd w' p s i := Blk.fr h hf hn
theorem Rd.fr0 {w w' : World} {p : Nat} {s : List UInt8} {i : Nat} (h : Rd w p s i) (hf : Fr no w w') : Rd w' p s i := Blk.fr0 h hf
theorem Rd.of {w : World} {p : Nat} {s : List UInt8} {i j : Nat} (h : Rd w p s i) (e : i = j) : Rd w p s j := e ▸ h
abbrev one (p : Nat) : Nat → Prop := fun b => b = p
theorem rdEnd (p : Nat) (s : List UInt8) (i : Nat) (w : World) (h : Rd w p s i) (hi : i ≤ s.length) (hs : s.length ≤ 140737488355232) :
    CallsF Tryz.prog 90 [.pointer (some ⟨p, 0, none⟩)] w fun v w' => v = .int .i64 (if i < s.length then 13 else 0) ∧ Fr no w w' := by
  refine callsF Tryz.func90 rfl rfl (by decide) rfl ?_
  refine sA [] rfl ?_
  refine ev_call rfl rfl rfl (left p s i _ h hi (by omega)) (fun r w' hr => ?_)
  obtain ⟨rfl, hf⟩ := hr
  refine sD [] rfl ?_; refine sD [] rfl ?_
  refine ev_condD rfl (fun h1 => ?_) (fun h1 => ?_)
  · refine sA [] rfl ?_
    exact ret1 (.inr rfl) rfl rfl ⟨by rw [if_pos (by omega)], hf⟩
  · refine sA [] rfl ?_
    exact ret1 (.inr rfl) rfl rfl ⟨by rw [if_neg (by omega)], hf⟩
theorem rdNumber (p : Nat) (s : List UInt8) (i : Nat) (bytes : Int) (w : World) (h : Rd w p s i) (hi : i ≤ s.length) (hs : s.length ≤ 140737488355232) :
    CallsF Tryz.prog 120 [.pointer (some ⟨p, 0, none⟩), .int .i64 bytes] w fun v w' => v = .tuple #[.int .i64 (rnV s i bytes), .int .i64 (rnE s i bytes)] ∧ Rd w' p s (rnA s i bytes) ∧ Fr (one p) w w' := by
  have bad : ∀ {e : Int}, e ≠ 0 → rnE s i bytes = e → rnV s i bytes = 0 ∧ rnA s i bytes = i := fun h0 he => by
    unfold rnV rnA; rw [he, if_neg h0, if_neg h0]; exact ⟨rfl, rfl⟩
  refine callsF Tryz.func120 rfl rfl (by decide) rfl ?_
  refine sA [0] rfl ?_
  refine ev_cut (α := Unit) (fun _ => [(0, .pointer (some ⟨p, 0, none⟩)), (1, .int .i64 bytes), (4, .int .i64 0), (5, .int .i64 0)]) (fun _ w' => Rd w' p s i ∧ Fr no w w' ∧ (bytes = 1 ∨ bytes = 2 ∨ bytes = 4 ∨ bytes = 8) ∧ ¬ (s.length : Int) - i < bytes) ?_ ?_
  · refine sA [] rfl ?_
    refine ev_call rfl rfl rfl (isSize _ _) (fun r w' hr => ?_)
    obtain ⟨rfl, rfl⟩ := hr
    refine sC [] rfl ?_
    refine ev_condND rfl (fun hp => ?_) (fun hp => ?_)
    · refine sA [] rfl ?_
      have e : rnE s i bytes = 1 := by unfold rnE; rw [if_neg hp]
      exact ret2 (.inr rfl) rfl rfl rfl ⟨by rw [e, (bad (by omega) e).1], h.of (bad (by omega) e).2.symm, Fr.refl _ _⟩
    refine sA [] rfl ?_
    refine ev_call rfl rfl rfl (left p s i _ h hi (by omega)) (fun r w' hr => ?_)
    obtain ⟨rfl, hf⟩ := hr
    refine sC [] rfl ?_
    refine ev_condD rfl (fun h1 => ?_) (fun h1 => ?_)
    · refine sA [] rfl ?_
      have e : rnE s i bytes = 11 := by unfold rnE; rw [if_pos hp, if_pos h1]
      exact ret2 (.inr rfl) rfl rfl rfl ⟨by rw [e, (bad (by omega) e).1], (h.fr0 hf).of (bad (by omega) e).2.symm, hf.mono fun _ _ x => x.elim⟩
    · refine sA [] rfl ?_
      exact ev_out () ⟨h.fr0 hf, hf, hp, h1⟩ ⟨rfl, rfl, rfl, rfl, trivial⟩
  rintro _ w1 ⟨h, hf1, hp, h1⟩
  refine sA [] rfl ?_
  refine ev_loop (α := Nat) (fun k => [(0, .pointer (some ⟨p, 0, none⟩)), (1, .int .i64 bytes), (6, .int .u64 (leN (cut s i k))), (21, .int .i64 bytes), (22, .int .i64 k)])
    (fun k w' => k ≤ bytes.toNat ∧ Rd w' p s i ∧ Fr no w w') (fun k => bytes.toNat - k) 0 ⟨rfl, rfl, by simp [look, cut, leN], rfl, rfl, trivial⟩ ⟨Nat.zero_le _, h, hf1⟩ ?_
  · rintro k w2 ⟨hk, h, hf2⟩
    have c0 := h.c0; have c1 := h.c1
    refine sC [] rfl ?_; refine sD [] rfl ?_
    refine ev_condD rfl (fun hlt => ?_) (fun hlt => ?_)
    · refine sA [] rfl ?_
      refine ev_draw mixed (by kernel_rfl) ?_
      refine qA rfl ?_; refine q_load rfl rfl tabOk rfl rfl (fun _ hf => cell_fr (by assumption) hf id) ?_; refine qA rfl ?_; refine q_load rfl rfl tabOk rfl rfl (fun _ hf => cell_fr (by assumption) hf id) ?_; refine qA rfl ?_; refine q_arith rfl rfl rfl rfl rfl (by simp only [lowK, hiK]; omega) ?_; refine q_index rfl rfl tabOk rfl rfl rfl (by omega) (by omega) ?_; refine q_convB rfl rfl tabOk rfl rfl rfl rfl ?_; refine qA rfl ?_; refine q_arith rfl rfl rfl rfl rfl (by simp only [lowK, hiK]; omega) ?_
      refine q_shl rfl rfl rfl rfl (by omega) (by simp only [IntKind.bits]; omega) ?_
      refine qA rfl ?_
      refine q_end fun w3 hf3 => ?_
      have hlt' : i + k < s.length := by omega
      have hk8 : k < 8 := by omega
      have hb : (s.getD ((i : Int) + (k : Int)).toNat 0) = s.getD (i + k) 0 := by congr 1
      have hstep := or_step (leN_lt (cut s i k)) (s.getD (i + k) 0).toNat_lt (k := (cut s i k).length) (by rw [cut_len (by omega)]; exact hk8)
      rw [cut_len (by omega)] at hstep
      refine sA [] rfl ?_; refine ev_arith rfl rfl rfl rfl rfl (by simp only [lowK, hiK]; omega) ?_; refine sA [] rfl ?_
      refine ev_next (k + 1) (by omega) ⟨by omega, h.fr0 hf3, hf2.tr hf3⟩ ⟨rfl, rfl, ?_, rfl, rfl, trivial⟩
      have e2 : leN (cut s i (k + 1)) = leN (cut s i k) + 256 ^ k * (s.getD (i + k) 0).toNat := by rw [cut_snoc hlt', leN_snoc, cut_len (by omega)]
      rw [e2]
      show some (Value.int .u64 (bits .or .u64 (leN (cut s i k) : Int) (IntKind.u64.wrap (((s.getD ((i : Int) + (k : Int)).toNat 0).toNat : Int) * 2 ^ (8 * (k : Int)).toNat)))) = _
      rw [hb, hstep]
    · have hk' : k = bytes.toNat := by omega
      subst hk'
      have e0 : rnE s i bytes = if 9223372036854775807 < leN (cut s i bytes.toNat) then 10 else 0 := by unfold rnE; rw [if_pos hp, if_neg h1]
      refine sC [] rfl ?_; refine sC [] rfl ?_; refine sD [] rfl ?_; refine sD [] rfl ?_
      refine ev_condD rfl (fun h2 => ?_) (fun h2 => ?_)
      · refine sA [] rfl ?_
        have e : rnE s i bytes = 10 := by rw [e0, if_pos (by omega)]
        exact ret2 (.inr rfl) rfl rfl rfl ⟨by rw [e, (bad (by omega) e).1], h.of (bad (by omega) e).2.symm, hf2.mono fun _ _ x => x.elim⟩
      · refine sA [] rfl ?_; refine ev_load rfl rfl tabOk rfl rfl ‹_› ?_; refine sA [] rfl ?_; refine ev_arith rfl rfl rfl rfl rfl (by simp only [lowK, hiK]; omega) ?_; refine sA [] rfl ?_
        have e : rnE s i bytes = 0 := by rw [e0, if_neg (by omega)]
        refine ev_store tabOk rfl rfl rfl rfl rfl rfl h rfl (fun w3 hb hf3 => ?_)
        refine sA [] rfl ?_; refine ev_conv rfl rfl tabOk rfl rfl rfl (by simp only [lowK, hiK]; omega) ?_; refine sA [] rfl ?_
        have hv : rnV s i bytes = leN (cut s i bytes.toNat) := by unfold rnV; rw [if_pos e]
        have ha : rnA s i bytes = i + bytes.toNat := by unfold rnA; rw [if_pos e]
        have hat : ((i : Int) + bytes) = ((rnA s i bytes : Nat) : Int) := by rw [ha]; omega
        refine ret2 (.inr rfl) rfl rfl rfl ⟨by rw [e, hv], ?_, hf2.tr0 hf3⟩
        unfold Rd
        rw [← hat]; exact hb
end Go.Wk.YtdelgnflcfhhkaaGreatDoor
namespace Go.Wk.YtdelgnflcfhhkaaGreatDoor
open Go Go.Wk Go.Proofs
/-- a number of 8 bits, as a value -/
abbrev iv (x : Int8) : Value := .int .i8 x.toInt
theorem iv_of (b : UInt8) : IntKind.i8.wrap (b.toNat : Int) = b.toInt8.toInt := by
  have h1 : b.toInt8.toInt = b.toBitVec.toInt := rfl
  have h2 : b.toBitVec.toNat = b.toNat := rfl
  rw [h1, BitVec.toInt_eq_toNat_cond, h2]
  have := b.toNat_lt
  simp [IntKind.wrap, IntKind.signed, IntKind.bits]
  split <;> split <;> omega
theorem bv_of (x : Int8) : IntKind.u8.wrap x.toInt = (x.toUInt8.toNat : Int) := by
  rw [wrap_u8]
  have h : x.toUInt8.toInt8 = x := by simp
  have h1 := iv_of x.toUInt8
  rw [h] at h1
  have := x.toUInt8.toNat_lt
  rw [← h1]
  simp [IntKind.wrap, IntKind.signed, IntKind.bits]
  split <;> omega
theorem rdRaw (p : Nat) (s : List UInt8) (i : Nat) (n : Int) (w : World) (h : Rd w p s i) (hi : i ≤ s.length) (hs : s.length ≤ 140737488355232) :
    CallsF Tryz.prog 121 [.pointer (some ⟨p, 0, none⟩), .int .i64 n] w fun v w' => v = .tuple #[.string (sOf (rrV s i n)), .int .i64 (rrE s i n)] ∧ Rd w' p s (rrA s i n) ∧ Fr (one p) w w' := by
  have bad : ∀ {e : Int}, e ≠ 0 → rrE s i n = e → rrV s i n = [] ∧ rrA s i n = i := fun h0 he => by
    unfold rrV rrA; rw [he, if_neg h0, if_neg h0]; exact ⟨rfl, rfl⟩
  refine callsF Tryz.func121 rfl rfl (by decide) rfl ?_
  refine sA [0] rfl ?_
  refine ev_cut (α := Unit) (fun _ => [(0, .pointer (some ⟨p, 0, none⟩)), (1, .int .i64 n)]) (fun _ w' => Rd w' p s i ∧ Fr no w w' ∧ 0 ≤ n ∧ ¬ (s.length : Int) - i < n) ?_ ?_
  · refine sC [] rfl ?_; refine sC [] rfl ?_; refine sD [] rfl ?_; refine sD [] rfl ?_; refine sD [] rfl ?_
    refine ev_condD rfl (fun hp => ?_) (fun hp => ?_)
    · refine sA [] rfl ?_
      have e : rrE s i n = 1 := by unfold rrE; rw [if_pos hp]
      exact ret2 (.inr rfl) rfl rfl rfl ⟨by rw [e, (bad (by omega) e).1], h.of (bad (by omega) e).2.symm, Fr.refl _ _⟩
    refine sA [] rfl ?_
    refine ev_call rfl rfl rfl (left p s i _ h hi (by omega)) (fun r w' hr => ?_)
    obtain ⟨rfl, hf⟩ := hr
    refine sC [] rfl ?_
    refine ev_condD rfl (fun h1 => ?_) (fun h1 => ?_)
    · refine sA [] rfl ?_
      have e : rrE s i n = 11 := by unfold rrE; rw [if_neg hp, if_pos h1]
      exact ret2 (.inr rfl) rfl rfl rfl ⟨by rw [e, (bad (by omega) e).1], (h.fr0 hf).of (bad (by omega) e).2.symm, hf.mono fun _ _ x => x.elim⟩
    · refine sA [] rfl ?_
      exact ev_out () ⟨h.fr0 hf, hf, by omega, h1⟩ ⟨rfl, rfl, trivial⟩
  rintro _ w1 ⟨h, hf1, hp, h1⟩
  have c0 := h.c0; have c1 := h.c1
  refine sA [] rfl ?_; refine ev_load rfl rfl tabOk rfl rfl ‹_› ?_; refine sA [] rfl ?_; refine ev_arith rfl rfl rfl rfl rfl (by simp only [lowK, hiK]; omega) ?_; refine sA [] rfl ?_
  refine ev_store tabOk rfl rfl rfl rfl rfl rfl h rfl (fun w3 hb hf3 => ?_)
  have d0 : w3.cell? ⟨p, 0, none⟩ = some (.string (sOf s)) := hb.cell rfl
  have d1 : w3.cell? ⟨p, 1, none⟩ = some (.int .i64 (i + n)) := hb.cell rfl
  clear c0 c1
  refine sA [] rfl ?_
  refine ev_draw mixed (by kernel_rfl) ?_
  refine qA rfl ?_; refine q_load rfl rfl tabOk rfl rfl (fun _ hf => cell_fr (by assumption) hf id) ?_; refine qA rfl ?_; refine q_load rfl rfl tabOk rfl rfl (fun _ hf => cell_fr (by assumption) hf id) ?_; refine qA rfl ?_; refine q_arith rfl rfl rfl rfl rfl (by simp only [lowK, hiK]; omega) ?_; refine qA rfl ?_; refine q_load rfl rfl tabOk rfl rfl (fun _ hf => cell_fr (by assumption) hf id) ?_
  refine q_sliceStr rfl rfl tabOk rfl rfl rfl rfl (by omega) (by omega) (by omega) ?_
  refine qA rfl ?_
  refine q_end fun w4 hf4 => ?_
  refine sA [] rfl ?_
  have e : rrE s i n = 0 := by unfold rrE; rw [if_neg (by omega), if_neg h1]
  have ha : rrA s i n = i + n.toNat := by unfold rrA; rw [if_pos e]
  refine ret2 (.inr rfl) rfl rfl rfl ⟨?_, ?_, (hf1.tr0 hf3).tr hf4⟩
  · rw [e]; unfold rrV; rw [if_pos e]
    have e1 : ((i : Int) + n - n).toNat = i := by omega
    have e2 : ((i : Int) + n).toNat = i + n.toNat := by omega
    rw [take_drop_cut, e1, e2, show i + n.toNat - i = n.toNat by omega]
  · have hat : ((i : Int) + n) = ((rrA s i n : Nat) : Int) := by rw [ha]; omega
    unfold Rd
    rw [← hat]; exact hb.fr0 hf4
theorem rdRow (p : Nat) (s : List UInt8) (i : Nat) (n : Int) (w : World) (h : Rd w p s i) (hi : i ≤ s.length) (hs : s.length ≤ 140737488355232) :
    CallsF Tryz.prog 122 [.pointer (some ⟨p, 0, none⟩), .int .i64 n] w fun v w' => ∃ x : Value, v = .tuple #[x, .int .i64 (rrE s i n)] ∧ Own w' 177 1 x (rrV s i n).length ((rrV s i n).map fun b => iv b.toInt8) ∧
      (∀ g, x.ownBlock = some g → w.heap.size ≤ g) ∧ Rd w' p s (rrA s i n) ∧ Fr (one p) w w' := by
  refine callsF Tryz.func122 rfl rfl (by decide) rfl ?_
  refine sA [] rfl ?_
  refine ev_call rfl rfl rfl (rdRaw p s _ _ _ h hi (by omega)) (fun r w1 hr => ?_)
  obtain ⟨rfl, h, hf1⟩ := hr
  generalize hl : rrV s i n = l at *
  have hll : l.length ≤ 140737488355232 := by
    rw [← hl]; unfold rrV; split <;> simp [cut]; omega
  refine sC [] rfl ?_; refine sC [] rfl ?_; refine sC [] rfl ?_
  refine ev_condD rfl (fun h1 => ?_) (fun h1 => ?_)
  · refine sA [] rfl ?_
    have e0 : l = [] := by rw [← hl]; unfold rrV; rw [if_neg h1]
    subst e0
    exact ret2 (.inr rfl) rfl rfl rfl ⟨.slice none 0 0, rfl, Own.nil _ _ _, fun g hg => by simp [Value.ownBlock] at hg, h, hf1⟩
  refine sA [] rfl ?_
  refine ev_make tabOk rfl rfl rfl inf177 rfl rfl (by omega) (by omega) (by omega) (fun q w2 hq hb hf2 => ?_)
  have e1 : (madeCells (Value.cells (.int .i8 0)) (((l.length : Int)).toNat * 1)).toList = List.replicate l.length (.int .i8 0) := by
    rw [Int.toNat_natCast, Nat.mul_one]; exact toList_madeCells_one _ _
  rw [e1] at hb
  have hpq : p ≠ q := fun e => by have := h.lt; omega
  refine sA [] rfl ?_
  refine ev_loop (α := Nat) (fun k => [(6, .string (sOf l)), (7, .int .i64 (rrE s i n)), (8, .slice (some ⟨q, 0, none⟩) ((l.length : Int)).toNat ((l.length : Int)).toNat), (23, .int .i64 l.length), (24, .int .i64 k)])
    (fun k w' => k ≤ l.length ∧ Rd w' p s (rrA s i n) ∧ Blk w' q ((l.take k).map (fun b => iv b.toInt8) ++ List.replicate (l.length - k) (.int .i8 0)) 177 ∧ Fr (one p) w w') (fun k => l.length - k) 0
    ⟨rfl, rfl, rfl, rfl, rfl, trivial⟩ ⟨Nat.zero_le _, h.fr0 hf2, by simpa using hb, hf1.tr hf2⟩ ?_
  rintro k w3 ⟨hk, h, hb, hf3⟩
  refine sC [] rfl ?_; refine sD [] rfl ?_
  refine ev_condD rfl (fun hlt => ?_) (fun hlt => ?_)
  · refine sA [] rfl ?_; refine ev_index rfl rfl tabOk rfl rfl rfl (by omega) (by omega) ?_
    refine ev_convW rfl rfl tabOk rfl rfl rfl ?_
    refine ev_indexAddr rfl rfl tabOk rfl rfl rfl (by omega) (by omega) ?_
    refine ev_store tabOk rfl rfl rfl rfl rfl rfl hb (blt_of (by simp; omega)) (fun w4 hb4 hf4 => ?_)
    have hk1 : k < l.length := by omega
    have e2 : setV ((l.take k).map (fun b => iv b.toInt8) ++ List.replicate (l.length - k) (Value.int .i8 0)) (0 + (k : Int).toNat * 1) (.int .i8 (IntKind.i8.wrap ((l.getD (k : Int).toNat 0).toNat : Int))) =
        (l.take (k + 1)).map (fun b => iv b.toInt8) ++ List.replicate (l.length - (k + 1)) (.int .i8 0) := by
      rw [setV_eq, iv_of, take_snoc hk1, List.map_append, List.append_assoc]
      have e3 : 0 + (k : Int).toNat * 1 = ((l.take k).map (fun b => iv b.toInt8)).length + 0 := by simp; omega
      rw [e3, List.set_append_right _ _ (by omega), Nat.add_sub_cancel_left]
      congr 1
      have e4 : l.length - k = (l.length - (k + 1)) + 1 := by omega
      rw [e4, List.replicate_succ]
      rfl
    rw [e2] at hb4
    refine sA [] rfl ?_; refine ev_arith rfl rfl rfl rfl rfl (by simp only [lowK, hiK]; omega) ?_; refine sA [] rfl ?_
    exact ev_next (k + 1) (by omega) ⟨by omega, h.fr hf4 hpq, hb4, hf3.trans hf4 (fun b hb e => by have := hf1.size; omega)⟩ ⟨rfl, rfl, rfl, rfl, rfl, trivial⟩
  · have hk' : k = l.length := by omega
    subst hk'
    have hE : rrE s i n = 0 := Classical.not_not.1 h1
    refine sA [] rfl ?_
    refine ret2 (.inr rfl) rfl rfl rfl ⟨_, by rw [hE], ?_, fun g hg => ?_, h, hf3⟩
    · rw [Int.toNat_natCast]
      refine own_of_blk (by simpa using hb) (by simp) (by omega)
    · simp only [Value.ownBlock, Option.some.injEq] at hg
      have := hf1.size; omega
/-- what is written of a row -/
def wrwB (l : List Int8) : List UInt8 := l.map Int8.toUInt8
theorem wrRow (p : Nat) (v : Value) (bs : List UInt8) (A : Option Addr) (c : Nat) (l : List Int8) (w : World) (h : Wr w p v bs) (hs : bs.length + l.length ≤ 1000000000000)
    (hc : Cs w A (l.map iv)) (hA : l ≠ [] → ∀ a, A = some a → a.block ≠ p ∧ v.ownBlock ≠ some a.block) :
    CallsF Tryz.prog 64 [.pointer (some ⟨p, 0, none⟩), .slice A l.length c] w fun r w' => ∃ v', Wr w' p v' (bs ++ wrwB l) ∧ Fr (WrS p v) w w' ∧ NB w v v' := by
  refine callsF Tryz.func64 rfl rfl (by decide) rfl ?_
  refine sA [] rfl ?_
  refine ev_loop (α := Nat) (fun k => [(0, .pointer (some ⟨p, 0, none⟩)), (8, .slice A l.length c), (9, .int .i64 l.length), (10, .int .i64 k)])
    (fun k w1 => k ≤ l.length ∧ Cs w1 A (l.map iv) ∧ ∃ v1, Wr w1 p v1 (bs ++ wrwB (l.take k)) ∧ Fr (WrS p v) w w1 ∧ NB w v v1) (fun k => l.length - k) 0 ⟨rfl, rfl, rfl, rfl, trivial⟩
    ⟨Nat.zero_le _, hc, v, by simpa [wrwB] using h, Fr.refl _ _, NB.refl _ _⟩ ?_
  rintro k w1 ⟨hk, hc1, v1, hw1, hf1, hn1⟩
  have c0 := hw1.c0
  refine sC [] rfl ?_; refine sD [] rfl ?_
  refine ev_condD rfl (fun hlt => ?_) (fun hlt => ?_)
  · have hk1 : k < l.length := by omega
    obtain ⟨b, o, rfl, hcell⟩ := hc1 k (iv (l.getD k 0)) (by simp [hk1])
    refine sA [] rfl ?_
    refine ev_indexAddr rfl rfl tabOk rfl rfl rfl (by omega) (by omega) ?_
    have hcell' : w1.cell? ⟨b, o + (k : Int).toNat * 1, none⟩ = some (iv (l.getD k 0)) := by rw [Int.toNat_natCast, Nat.mul_one]; exact hcell
    refine ev_load rfl rfl tabOk rfl rfl ‹_› ?_; refine sA [] rfl ?_; refine ev_load rfl rfl tabOk rfl rfl ‹_› ?_; refine sA [] rfl ?_
    refine ev_convW rfl rfl tabOk rfl rfl rfl ?_
    refine ev_append1 tabOk rfl rfl (fun _ => rfl) rfl rfl inf5 rfl (by omega) (fun _ => rfl) rfl rfl (by simp [Value.cells]) (by simp [flatV, Value.cells, Value.oneCell']) rfl hw1.2.1 ?_ (fun v2 w2 q ho hf hn => ?_)
    · simp [wrwB]; omega
    refine sA [] rfl ?_
    refine ev_store tabOk rfl rfl rfl rfl rfl ?_ (hw1.blk hf) rfl (fun w3 hb hf2 => ?_)
    · rcases ho.2 with ⟨rfl, _⟩ | ⟨g, cap, cur, rfl, _⟩ <;> rfl
    have hq : flatV [Value.int .u8 (IntKind.u8.wrap (l.getD k 0).toInt)] = [(l.getD k 0).toUInt8].map bv := by
      rw [bv_of]; rfl
    rw [hq] at ho
    obtain ⟨h1, h2⟩ := hw1.put (cs := [(l.getD k 0).toUInt8]) ho (by simp; omega) (by simp) hf hn hb hf2
    have hW := hf1.trans h2 (WrS_sub hn1)
    refine sA [] rfl ?_; refine ev_arith rfl rfl rfl rfl rfl (by simp only [lowK, hiK]; omega) ?_; refine sA [] rfl ?_
    refine ev_next (k + 1) (by omega) ⟨by omega, hc.fr hW ?_, v2, ?_, hW, hn1.trans hn hf1.size⟩ ⟨rfl, rfl, rfl, rfl, trivial⟩
    · intro a ha hx
      obtain ⟨h3, h4⟩ := hA (fun e => by simp [e] at hk1) a ha
      rcases hx with hx | hx
      · exact h3 hx
      · exact h4 hx
    · have e : wrwB (l.take (k + 1)) = wrwB (l.take k) ++ [(l.getD k 0).toUInt8] := by
        unfold wrwB
        rw [List.take_succ_eq_append_getElem hk1, List.map_append]
        simp only [List.map_cons, List.map_nil, List.getD_eq_getElem?_getD, List.getElem?_eq_getElem hk1, Option.getD_some]
      rw [e, ← List.append_assoc]; exact h1
  · have hk' : k = l.length := by omega
    subst hk'
    refine sA [] rfl ?_
    exact ret0 (.inl rfl) rfl ⟨v1, by rw [List.take_length] at hw1; exact hw1, hf1, hn1⟩
end Go.Wk.YtdelgnflcfhhkaaGreatDoor
