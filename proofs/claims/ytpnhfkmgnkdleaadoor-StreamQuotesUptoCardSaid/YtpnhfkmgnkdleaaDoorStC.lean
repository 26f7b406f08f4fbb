/-
  The walks of chapter 14: a character decoded, by the library's tables.
-/
import Derived.Test.YtpnhfkmgnkdleaaDoorStB
import Derived.Test.YtpnhfkmgnkdleaaDoorBits
set_option linter.unusedVariables false
namespace Go.Wk.YtpnhfkmgnkdleaaDoor
open Go Go.Wk Go.Proofs Go.Lib

/-- the library's tables lie in their variables -/
def UT (w : World) : Prop := (∀ i, i < 256 → w.cell? ⟨0, i, none⟩ = some (.int .u8 (firstT i : Int))) ∧ (∀ i, i < 5 → w.cell? ⟨1, 2 * i, none⟩ = some (.int .u8 (accLo i : Int)) ∧ w.cell? ⟨1, 2 * i + 1, none⟩ = some (.int .u8 (accHi i : Int)))
theorem UT.fr {S : Nat → Prop} {w w' : World} (h : UT w) (hf : Fr S w w') (h0 : ¬ S 0) (h1 : ¬ S 1) : UT w' :=
  ⟨fun i hi => cell_fr (h.1 i hi) hf h0, fun i hi => ⟨cell_fr (h.2 i hi).1 hf h1, cell_fr (h.2 i hi).2 hf h1⟩⟩
theorem UT.fr0 {w w' : World} (h : UT w) (hf : Fr no w w') : UT w' := h.fr hf id id

theorem andNot_m1 (x : Int) : bits .or .i32 (bits .andNot .i32 x (-1)) 65533 = 65533 := by
  have h : bits .andNot .i32 x (-1) = 0 := by
    show IntKind.i32.wrap (((BitVec.ofInt 32 x &&& ~~~(BitVec.ofInt 32 (-1)) : BitVec 32).toNat : Nat) : Int) = 0
    have : ~~~(BitVec.ofInt 32 (-1)) = 0#32 := by decide
    rw [this, BitVec.and_zero]; rfl
  rw [h]; decide

/-- what decoding says: how wide; at what is no character the replacement -/
def DcR (l : List UInt8) (r : Int) : Prop := (¬ good l → r = 65533) ∧ (good l → wid l = 1 → r = ((l.getD 0 0).toNat : Int))

set_option maxRecDepth 40000 in
set_option maxHeartbeats 4000000 in
theorem decSlow (l : List UInt8) (w : World) (hl : 0 < l.length) (hs : l.length ≤ 9223372036854775806) (hT : UT w) (hna : ¬ (l.getD 0 0).toNat < 128) :
    CallsF Tryd.prog 78 [.string (sOf l)] w fun v w' => (∃ r : Int, v = .tuple #[.int .i32 r, .int .i64 (wid l)] ∧ (¬ good l → r = 65533) ∧ (good l → wid l ≠ 1)) ∧ Fr no w w' := by
  have hb0 := (l.getD 0 0).toNat_lt
  have c0 := hT.1 _ hb0
  refine callsF Tryd.func78 rfl rfl (by decide) rfl ?_
  refine sB [] rfl ?_
  refine ev_condD rfl (fun h1 => by omega) (fun h1 => ?_)
  refine sA [] rfl ?_; refine ev_index rfl rfl tabOk rfl rfl rfl (by omega) (by omega) ?_; refine sA [] rfl ?_
  rw [show (0 : Int).toNat = 0 from rfl]
  refine ev_indexAddrP rfl rfl tabOk rfl rfl rfl (by omega) (by omega) ?_
  have c0' : w.cell? ⟨0, 0 + (((l.getD 0 0).toNat : Nat) : Int).toNat * 1, none⟩ = some (.int .u8 (firstT (l.getD 0 0).toNat : Int)) := by
    rw [Int.toNat_natCast, Nat.mul_one, Nat.zero_add]; exact c0
  by_cases hb : 194 ≤ (l.getD 0 0).toNat ∧ (l.getD 0 0).toNat ≤ 244
  · obtain ⟨k1, k2, k3, k4, k5⟩ := first_siz hb
    have hsw := slow_wid hl k2 (by omega) k4 k5
    have h5 : firstT (l.getD 0 0).toNat / 16 < 5 := by
      have := (first_siz hb).1
      unfold firstT
      (repeat' split) <;> omega
    obtain ⟨F, hF⟩ : ∃ F, F = firstT (l.getD 0 0).toNat := ⟨_, rfl⟩
    rw [← hF] at k1 k2 k4 k5 hsw c0' h5
    have hsz : 2 ≤ F % 8 ∧ F % 8 ≤ 4 := by have := siz_le (l.getD 0 0); omega
    obtain ⟨sz, hszd⟩ : ∃ sz, sz = F % 8 := ⟨_, rfl⟩
    obtain ⟨q, hq⟩ : ∃ q, q = F / 16 := ⟨_, rfl⟩
    rw [← hszd] at hsw hsz
    rw [← hq] at hsw h5
    obtain ⟨S, hS⟩ : ∃ S, S = slowN l.length (l.getD 0 0).toNat (l.getD 1 0).toNat (l.getD 2 0).toNat (l.getD 3 0).toNat sz (accLo q) (accHi q) := ⟨_, rfl⟩
    rw [← hS] at hsw
    unfold slowN at hS
    obtain ⟨hs1, hs2, hs3⟩ := hsw
    have hgw : good l → wid l ≠ 1 := fun h => by have := hs3 h; omega
    have hng : ¬ good l → wid l = 1 := fun h => by unfold wid; rw [if_neg h]
    have ea : bits .and .u8 (F : Int) 7 = ((sz : Nat) : Int) := by
      rw [show (7 : Int) = ((7 : Nat) : Int) from rfl, bits_and8 (by omega) (by omega), hszd]
      congr 1
      exact Nat.and_two_pow_sub_one_eq_mod F 3
    have eb : (F : Int).fdiv (2 ^ 4) = ((q : Nat) : Int) := by rw [Int.fdiv_eq_ediv_of_nonneg _ (by omega), hq]; rfl
    have hlo : accLo q < 256 := by unfold accLo; (repeat' split) <;> omega
    have hhi : accHi q < 256 := by unfold accHi; (repeat' split) <;> omega
    have cq := hT.2 q h5
    have ccs : Cs w (some ⟨1, 0 + ((q : Nat) : Int).toNat * 2, none⟩) [.int .u8 (accLo q : Int), .int .u8 (accHi q : Int)] := by
      rw [Int.toNat_natCast, Nat.zero_add]
      intro j u hj
      rcases (show j = 0 ∨ j = 1 ∨ 2 ≤ j by omega) with rfl | rfl | hj2
      · simp at hj; subst hj; exact ⟨_, _, rfl, by rw [Nat.mul_comm, Nat.add_zero]; exact cq.1⟩
      · simp at hj; subst hj; exact ⟨_, _, rfl, by rw [Nat.mul_comm]; exact cq.2⟩
      · rw [List.getElem?_eq_none (by simpa using hj2)] at hj; cases hj
    refine ev_load rfl rfl tabOk rfl rfl ‹_› ?_; refine sC [] rfl ?_; refine sC [] rfl ?_
    refine ev_condD rfl (fun h2 => by omega) (fun h2 => ?_)
    refine sA [] rfl ?_; refine ev_conv rfl rfl tabOk rfl rfl rfl (by simp only [lowK, hiK]; omega) ?_; refine sA [] rfl ?_
    rw [ea]
    skip
    rw [eb]
    refine ev_indexAddrP rfl rfl tabOk rfl rfl rfl (by omega) (by omega) ?_
    refine ev_loadAgg rfl rfl tabOk rfl rfl rfl ccs ?_
    refine ev_alloc rfl rfl inf123 (fun x w3 hx hX3 hf3 => ?_)
    refine ev_storeAgg tabOk rfl rfl rfl rfl rfl rfl hX3 rfl (fun w4 hX4 hf4 => ?_)
    have hf04 : Fr no w w4 := hf3.trans hf4 (fun b hb e => by omega)
    have d0 : w4.cell? ⟨x, 0, none⟩ = some (.int .u8 (accLo q : Int)) := hX4.cell rfl
    have d1 : w4.cell? ⟨x, 1, none⟩ = some (.int .u8 (accHi q : Int)) := hX4.cell rfl
    clear hX3 hf3 hf4
    generalize accLo q = lo at *
    generalize accHi q = hi at *
    have bad : S.2 = 1 → ∃ r : Int, Value.tuple #[.int .i32 65533, .int .i64 1] = .tuple #[.int .i32 r, .int .i64 (wid l)] ∧ (¬ good l → r = 65533) ∧ (good l → wid l ≠ 1) := fun h => ⟨65533, by rw [← hs1, h]; rfl, fun _ => rfl, hgw⟩
    have okk : ∀ (r : Int) (m : Nat), 2 ≤ m → S.2 = m → ∃ r' : Int, Value.tuple #[.int .i32 r, .int .i64 (m : Int)] = .tuple #[.int .i32 r', .int .i64 (wid l)] ∧ (¬ good l → r' = 65533) ∧ (good l → wid l ≠ 1) := fun r m h2 h => ⟨r, by rw [← hs1, h], fun hn => by have := hng hn; omega, hgw⟩
    refine sC [] rfl ?_; refine sC [] rfl ?_
    refine ev_condD rfl (fun h3 => ?_) (fun h3 => ?_)
    · rw [if_pos (by omega)] at hS
      refine sA [] rfl ?_
      exact ret2 (.inr rfl) rfl rfl rfl ⟨bad (by rw [hS]), hf04⟩
    rw [if_neg (by omega)] at hS
    refine sA [] rfl ?_; refine ev_index rfl rfl tabOk rfl rfl rfl (by omega) (by omega) ?_; refine sA [] rfl ?_; refine ev_load rfl rfl tabOk rfl rfl ‹_› ?_; refine sD [] rfl ?_; refine sD [] rfl ?_
    rw [show (1 : Int).toNat = 1 from rfl]
    have hb1 := (l.getD 1 0).toNat_lt
    refine ev_join2 (α := Unit) (fun _ => [(0, .string (sOf l)), (5, bv (l.getD 0 0)), (8, .int .i64 sz), (10, bv (l.getD 1 0))]) (fun _ w' => w' = w4 ∧ ¬ ((l.getD 1 0).toNat < lo ∨ hi < (l.getD 1 0).toNat)) ?_ ?_
    · refine ev_guardD rfl rfl (fun h4 => ?_) (fun h4 => ?_)
      · rw [if_pos (by omega)] at hS
        refine sA [] rfl ?_
        exact ret2 (.inr rfl) rfl rfl rfl ⟨bad (by rw [hS]), hf04⟩
      · refine sA [] rfl ?_; refine ev_load rfl rfl tabOk rfl rfl ‹_› ?_; refine sC [] rfl ?_
        refine ev_condD rfl (fun h5 => ?_) (fun h5 => ?_)
        · rw [if_pos (by omega)] at hS
          refine sA [] rfl ?_
          exact ret2 (.inr rfl) rfl rfl rfl ⟨bad (by rw [hS]), hf04⟩
        · refine sA [] rfl ?_
          exact ev_out () ⟨rfl, by omega⟩ ⟨rfl, rfl, rfl, rfl, trivial⟩
    rintro _ w5 ⟨rfl, h6⟩
    rw [if_neg h6] at hS
    refine sC [] rfl ?_; refine sD [] rfl ?_; refine sD [] rfl ?_
    refine ev_condD rfl (fun h7 => ?_) (fun h7 => ?_)
    · rw [if_pos (by omega)] at hS
      refine sA [] rfl ?_
      refine ev_convW rfl rfl tabOk rfl rfl rfl ?_
      refine sA [] rfl ?_
      refine ev_convW rfl rfl tabOk rfl rfl rfl ?_
      refine sA [] rfl ?_
      exact ret2 (.inr rfl) rfl rfl rfl ⟨okk _ 2 (by omega) (by rw [hS]), hf04⟩
    rw [if_neg (by omega)] at hS
    refine sA [] rfl ?_; refine ev_index rfl rfl tabOk rfl rfl rfl (by omega) (by omega) ?_; refine sC [] rfl ?_; refine sC [] rfl ?_
    rw [show (2 : Int).toNat = 2 from rfl]
    have hb2 := (l.getD 2 0).toNat_lt
    refine ev_join2 (α := Unit) (fun _ => [(0, .string (sOf l)), (5, bv (l.getD 0 0)), (8, .int .i64 sz), (10, bv (l.getD 1 0)), (11, bv (l.getD 2 0))]) (fun _ w' => w' = w5 ∧ ¬ ((l.getD 2 0).toNat < 128 ∨ 191 < (l.getD 2 0).toNat)) ?_ ?_
    · refine ev_guardD rfl rfl (fun h4 => ?_) (fun h4 => ?_)
      · rw [if_pos (by omega)] at hS
        refine sA [] rfl ?_
        exact ret2 (.inr rfl) rfl rfl rfl ⟨bad (by rw [hS]), hf04⟩
      · refine sC [] rfl ?_
        refine ev_condD rfl (fun h5 => ?_) (fun h5 => ?_)
        · rw [if_pos (by omega)] at hS
          refine sA [] rfl ?_
          exact ret2 (.inr rfl) rfl rfl rfl ⟨bad (by rw [hS]), hf04⟩
        · refine sA [] rfl ?_
          exact ev_out () ⟨rfl, by omega⟩ ⟨rfl, rfl, rfl, rfl, rfl, trivial⟩
    rintro _ w6 ⟨rfl, h8⟩
    rw [if_neg h8] at hS
    refine sC [] rfl ?_; refine sD [] rfl ?_; refine sD [] rfl ?_
    refine ev_condD rfl (fun h9 => ?_) (fun h9 => ?_)
    · rw [if_pos (by omega)] at hS
      refine sA [] rfl ?_
      refine ev_convW rfl rfl tabOk rfl rfl rfl ?_
      refine sA [] rfl ?_
      refine ev_convW rfl rfl tabOk rfl rfl rfl ?_
      refine sA [] rfl ?_
      refine ev_convW rfl rfl tabOk rfl rfl rfl ?_
      refine sA [] rfl ?_
      exact ret2 (.inr rfl) rfl rfl rfl ⟨okk _ 3 (by omega) (by rw [hS]), hf04⟩
    rw [if_neg (by omega)] at hS
    refine sA [] rfl ?_; refine ev_index rfl rfl tabOk rfl rfl rfl (by omega) (by omega) ?_; refine sC [] rfl ?_; refine sC [] rfl ?_
    rw [show (3 : Int).toNat = 3 from rfl]
    have hb3 := (l.getD 3 0).toNat_lt
    refine ev_join2 (α := Unit) (fun _ => [(0, .string (sOf l)), (5, bv (l.getD 0 0)), (8, .int .i64 sz), (10, bv (l.getD 1 0)), (11, bv (l.getD 2 0)), (12, bv (l.getD 3 0))]) (fun _ w' => w' = w6 ∧ ¬ ((l.getD 3 0).toNat < 128 ∨ 191 < (l.getD 3 0).toNat)) ?_ ?_
    · refine ev_guardD rfl rfl (fun h4 => ?_) (fun h4 => ?_)
      · rw [if_pos (by omega)] at hS
        refine sA [] rfl ?_
        exact ret2 (.inr rfl) rfl rfl rfl ⟨bad (by rw [hS]), hf04⟩
      · refine sC [] rfl ?_
        refine ev_condD rfl (fun h5 => ?_) (fun h5 => ?_)
        · rw [if_pos (by omega)] at hS
          refine sA [] rfl ?_
          exact ret2 (.inr rfl) rfl rfl rfl ⟨bad (by rw [hS]), hf04⟩
        · refine sA [] rfl ?_
          exact ev_out () ⟨rfl, by omega⟩ ⟨rfl, rfl, rfl, rfl, rfl, rfl, trivial⟩
    rintro _ w7 ⟨rfl, h10⟩
    rw [if_neg h10] at hS
    refine sA [] rfl ?_
    refine ev_convW rfl rfl tabOk rfl rfl rfl ?_
    refine sA [] rfl ?_
    refine ev_convW rfl rfl tabOk rfl rfl rfl ?_
    refine sA [] rfl ?_
    refine ev_convW rfl rfl tabOk rfl rfl rfl ?_
    refine sA [] rfl ?_
    refine ev_convW rfl rfl tabOk rfl rfl rfl ?_
    refine sA [] rfl ?_
    exact ret2 (.inr rfl) rfl rfl rfl ⟨okk _ 4 (by omega) (by rw [hS]), hf04⟩
  · obtain ⟨h1, h2⟩ := bad_siz (by omega) hb
    have g0 : ¬ goes l 0 := fun h => by have := h.2.1; omega
    have hf : fits l = 0 := fits_of (fun j hj => by omega) g0
    have hg : ¬ good l := fun h => by have := h.1; omega
    have hw : wid l = 1 := by unfold wid; rw [if_neg hg]
    rw [h2] at c0'
    have e1 : (IntKind.i32.wrap (((241 : Nat) : Int) * 2 ^ 31)).fdiv (2 ^ 31) = -1 := by decide
    have e2 : bits .and .i32 65533 (-1) = 65533 := by decide
    refine ev_load rfl rfl tabOk rfl rfl ‹_› ?_; refine sA [] rfl ?_; refine ev_conv rfl rfl tabOk rfl rfl rfl (by simp only [lowK, hiK]; omega) ?_; refine sA [] rfl ?_; refine ev_index rfl rfl tabOk rfl rfl rfl (by omega) (by omega) ?_; refine ev_convB rfl rfl tabOk rfl rfl rfl rfl ?_; refine sA [] rfl ?_
    rw [e1, e2, andNot_m1]
    exact ret2 (.inr rfl) rfl rfl rfl ⟨⟨65533, by rw [hw]; rfl, fun _ => rfl, fun h => absurd h hg⟩, Fr.refl _ _⟩

set_option maxRecDepth 40000 in
theorem decRune (l : List UInt8) (w : World) (hl : 0 < l.length) (hs : l.length ≤ 9223372036854775806) (hT : UT w) :
    CallsF Tryd.prog 54 [.string (sOf l)] w fun v w' => (∃ r : Int, v = .tuple #[.int .i32 r, .int .i64 (wid l)] ∧ DcR l r) ∧ Fr no w w' := by
  have hb := (l.getD 0 0).toNat_lt
  have hne : ¬ l = [] := List.length_pos_iff.1 hl
  refine callsF Tryd.func54 rfl rfl (by decide) rfl ?_
  refine sC [] rfl ?_; refine sC [] rfl ?_; refine sD [] rfl ?_; refine sD [] rfl ?_; refine sD [] rfl ?_
  refine ev_guardD rfl rfl (fun h1 => ?_) (fun h1 => absurd hne h1)
  refine sA [] rfl ?_; refine ev_index rfl rfl tabOk rfl rfl rfl (by omega) (by omega) ?_; refine sD [] rfl ?_; refine sD [] rfl ?_; refine sD [] rfl ?_
  rw [show (0 : Int).toNat = 0 from rfl]
  refine ev_condD rfl (fun h2 => ?_) (fun h2 => ?_)
  · obtain ⟨h3, h4⟩ := asc_siz (b := l.getD 0 0) (by omega)
    have g0 : goes l 0 := ⟨hl, by omega, .inl rfl⟩
    have g1 : ¬ goes l 1 := fun h => by have := h.2.1; omega
    have hf : fits l = 1 := fits_of (fun j hj => by rcases (show j = 0 by omega) with rfl; exact g0) g1
    have hg : good l := ⟨by omega, by omega⟩
    have hw : wid l = 1 := by unfold wid; rw [if_pos hg, hf]
    refine sA [] rfl ?_; refine ev_index rfl rfl tabOk rfl rfl rfl (by omega) (by omega) ?_; refine ev_convB rfl rfl tabOk rfl rfl rfl rfl ?_; refine sA [] rfl ?_
    exact ret2 (.inr rfl) rfl rfl rfl ⟨⟨_, by rw [hw]; rfl, fun h => absurd hg h, fun _ _ => rfl⟩, Fr.refl _ _⟩
  · refine sA [] rfl ?_
    refine ev_call rfl rfl rfl (decSlow l _ hl hs hT (by omega)) (fun r w2 hr => ?_)
    obtain ⟨⟨r', rfl, h3, h4⟩, hf⟩ := hr
    refine sA [] rfl ?_
    exact ret2 (.inr rfl) rfl rfl rfl ⟨⟨r', rfl, h3, fun hg hw => absurd hw (h4 hg)⟩, hf⟩
end Go.Wk.YtpnhfkmgnkdleaaDoor
