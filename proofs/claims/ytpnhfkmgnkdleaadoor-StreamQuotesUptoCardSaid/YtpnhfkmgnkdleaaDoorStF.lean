/-
  The walks of chapter 14: whole and half characters, by the library's tables.
-/
import Derived.Test.YtpnhfkmgnkdleaaDoorStE
set_option linter.unusedVariables false
namespace Go.Wk.YtpnhfkmgnkdleaaDoor
open Go Go.Wk Go.Proofs Go.Lib

theorem runeStart (b : UInt8) (w : World) : CallsF Tryd.prog 76 [bv b] w fun r w' => r = .bool (decide (b.toNat / 64 ≠ 2)) ∧ w' = w := by
  have hb := b.toNat_lt
  have key : ∀ x : Fin 256, (x.val &&& 192 = 128) ↔ x.val / 64 = 2 := by decide +kernel
  have k := key ⟨b.toNat, hb⟩
  simp only at k
  refine callsF Tryd.func76 rfl rfl (by decide) rfl ?_
  refine sA [] rfl ?_
  rw [show (192 : Int) = ((192 : Nat) : Int) from rfl, bits_and8 (by omega) (by omega)]
  refine ret1 (.inr rfl) rfl rfl ⟨?_, rfl⟩
  congr 1
  apply decide_eq_decide.2
  omega

theorem half_goes {l : List UInt8} : halfP l ↔ 0 < l.length ∧ l.length < siz (l.getD 0 0) ∧ (1 < l.length → lat (l.getD 0 0) 1 (l.getD 1 0)) ∧ (2 < l.length → lat (l.getD 0 0) 2 (l.getD 2 0)) := by
  have h4 := siz_le (l.getD 0 0)
  constructor
  · rintro ⟨h1, h2, h3⟩
    have hg := (fits_spec l).1
    refine ⟨h1, h3, fun h => ?_, fun h => ?_⟩
    · rcases (hg 1 (by omega)).2.2 with h | h
      · omega
      · exact h
    · rcases (hg 2 (by omega)).2.2 with h | h
      · omega
      · exact h
  · rintro ⟨h1, h2, h3, h5⟩
    refine ⟨h1, fits_of (fun j hj => ?_) (fun h => by have := h.1; omega), h2⟩
    rcases (show j = 0 ∨ j = 1 ∨ j = 2 by omega) with rfl | rfl | rfl
    · exact ⟨by omega, by omega, .inl rfl⟩
    · exact ⟨by omega, by omega, .inr (h3 (by omega))⟩
    · exact ⟨by omega, by omega, .inr (h5 (by omega))⟩
theorem half_start {l : List UInt8} (h : halfP l) : (l.getD 0 0).toNat / 64 ≠ 2 := by
  have h1 := h.1; have h3 := h.2.2
  intro h2
  have : siz (l.getD 0 0) ≤ 1 := by
    unfold siz
    (repeat' split) <;> omega
  omega

set_option maxRecDepth 40000 in
set_option maxHeartbeats 4000000 in
theorem fullRune (l : List UInt8) (w : World) (hl : 0 < l.length) (hs : l.length ≤ 9223372036854775806) (hT : UT w) : CallsF Tryd.prog 77 [.string (sOf l)] w fun r w' => r = .bool (!decide (halfP l)) ∧ Fr no w w' := by
  have hb0 := (l.getD 0 0).toNat_lt
  have c0 := hT.1 _ hb0
  refine callsF Tryd.func77 rfl rfl (by decide) rfl ?_
  refine sC [] rfl ?_; refine sC [] rfl ?_; refine sC [] rfl ?_; refine sC [] rfl ?_
  refine ev_condD rfl (fun h1 => by omega) (fun h1 => ?_)
  refine sA [] rfl ?_; refine ev_index rfl rfl tabOk rfl rfl rfl (by omega) (by omega) ?_
  rw [show (0 : Int).toNat = 0 from rfl]
  refine ev_indexAddrP rfl rfl tabOk rfl rfl rfl (by omega) (by omega) ?_
  have c0' : w.cell? ⟨0, 0 + (((l.getD 0 0).toNat : Nat) : Int).toNat * 1, none⟩ = some (.int .u8 (firstT (l.getD 0 0).toNat : Int)) := by
    rw [Int.toNat_natCast, Nat.mul_one, Nat.zero_add]; exact c0
  obtain ⟨F, hF⟩ : ∃ F, F = firstT (l.getD 0 0).toNat := ⟨_, rfl⟩
  have hF256 : F < 256 := by rw [hF]; unfold firstT; (repeat' split) <;> omega
  have hm : siz (l.getD 0 0) < 2 → F % 8 ≤ 1 := fun h => by
    by_cases ha : (l.getD 0 0).toNat < 128
    · rw [hF, (asc_siz ha).2]; decide
    · by_cases hb : 194 ≤ (l.getD 0 0).toNat ∧ (l.getD 0 0).toNat ≤ 244
      · have := (first_siz hb).2.2.1; omega
      · rw [hF, (bad_siz (by omega) hb).2]; decide
  have hcl : 2 ≤ siz (l.getD 0 0) → siz (l.getD 0 0) = F % 8 ∧ F / 16 < 5 ∧ latLo (l.getD 0 0) 1 = accLo (F / 16) ∧ latHi (l.getD 0 0) 1 = accHi (F / 16) := fun h => by
    have hb : 194 ≤ (l.getD 0 0).toNat ∧ (l.getD 0 0).toNat ≤ 244 := by
      by_cases ha : (l.getD 0 0).toNat < 128
      · have := (asc_siz ha).1; omega
      · by_cases hb : 194 ≤ (l.getD 0 0).toNat ∧ (l.getD 0 0).toNat ≤ 244
        · exact hb
        · have := (bad_siz (by omega) hb).1; omega
    obtain ⟨k1, k2, k3, k4, k5⟩ := first_siz hb
    rw [← hF] at k1 k2 k4 k5
    refine ⟨k2, ?_, k4, k5⟩
    rw [hF]
    unfold firstT
    (repeat' split) <;> omega
  rw [← hF] at c0'
  have hhg := half_goes (l := l)
  have ea : bits .and .u8 (F : Int) 7 = ((F % 8 : Nat) : Int) := by
    rw [show (7 : Int) = ((7 : Nat) : Int) from rfl, bits_and8 (by omega) (by omega)]
    congr 1
    exact Nat.and_two_pow_sub_one_eq_mod F 3
  have eb : (F : Int).fdiv (2 ^ 4) = ((F / 16 : Nat) : Int) := by rw [Int.fdiv_eq_ediv_of_nonneg _ (by omega)]; rfl
  obtain ⟨sz, hszd⟩ : ∃ sz, sz = F % 8 := ⟨_, rfl⟩
  obtain ⟨q, hq⟩ : ∃ q, q = F / 16 := ⟨_, rfl⟩
  rw [← hszd] at hcl ea hm
  rw [← hq] at hcl eb
  refine ev_load rfl rfl tabOk rfl rfl ‹_› ?_; refine sA [] rfl ?_; refine ev_conv rfl rfl tabOk rfl rfl rfl (by simp only [lowK, hiK]; omega) ?_; refine sD [] rfl ?_; refine sD [] rfl ?_
  rw [ea]
  skip
  refine ev_condD rfl (fun h2 => ?_) (fun h2 => ?_)
  · refine sA [] rfl ?_
    refine ret1 (.inr rfl) rfl rfl ⟨?_, Fr.refl _ _⟩
    rw [decide_eq_false (fun h => by
      have h3 := hhg.1 h
      have := hcl (by omega)
      omega)]
    rfl
  have hsz2 : 2 ≤ siz (l.getD 0 0) := by
    by_cases h : 2 ≤ siz (l.getD 0 0)
    · exact h
    · have := hm (by omega); omega
  obtain ⟨k1, k2, k3, k4⟩ := hcl hsz2
  have hlo : accLo q < 256 := by unfold accLo; (repeat' split) <;> omega
  have hhi : accHi q < 256 := by unfold accHi; (repeat' split) <;> omega
  have cq := hT.2 q k2
  have ccs : Cs w (some ⟨1, 0 + ((q : Nat) : Int).toNat * 2, none⟩) [.int .u8 (accLo q : Int), .int .u8 (accHi q : Int)] := by
    rw [Int.toNat_natCast, Nat.zero_add]
    intro j u hj
    rcases (show j = 0 ∨ j = 1 ∨ 2 ≤ j by omega) with rfl | rfl | hj2
    · simp at hj; subst hj; exact ⟨_, _, rfl, by rw [Nat.mul_comm, Nat.add_zero]; exact cq.1⟩
    · simp at hj; subst hj; exact ⟨_, _, rfl, by rw [Nat.mul_comm]; exact cq.2⟩
    · rw [List.getElem?_eq_none (by simpa using hj2)] at hj; cases hj
  have l1 : ∀ c : UInt8, lat (l.getD 0 0) 1 c ↔ accLo q ≤ c.toNat ∧ c.toNat ≤ accHi q := fun c => by unfold lat; rw [k3, k4]
  have l2 : ∀ c : UInt8, lat (l.getD 0 0) 2 c ↔ 128 ≤ c.toNat ∧ c.toNat ≤ 191 := fun c => Iff.rfl
  rw [l1, l2, k1] at hhg
  have no1 : ∀ w', Fr no w w' → ¬ halfP l → (Value.bool true = .bool (!decide (halfP l)) ∧ Fr no w w') := fun w' hf h => ⟨by rw [decide_eq_false h]; rfl, hf⟩
  have yes1 : ∀ w', Fr no w w' → halfP l → (Value.bool false = .bool (!decide (halfP l)) ∧ Fr no w w') := fun w' hf h => ⟨by rw [decide_eq_true h]; rfl, hf⟩
  refine sA [] rfl ?_
  rw [eb]
  refine ev_indexAddrP rfl rfl tabOk rfl rfl rfl (by omega) (by omega) ?_
  refine ev_loadAgg rfl rfl tabOk rfl rfl rfl ccs ?_
  refine ev_alloc rfl rfl inf123 (fun x w3 hx hX3 hf3 => ?_)
  refine ev_storeAgg tabOk rfl rfl rfl rfl rfl rfl hX3 rfl (fun w4 hX4 hf4 => ?_)
  have hf04 : Fr no w w4 := hf3.trans hf4 (fun b hb e => by omega)
  have d0 : w4.cell? ⟨x, 0, none⟩ = some (.int .u8 (accLo q : Int)) := hX4.cell rfl
  have d1 : w4.cell? ⟨x, 1, none⟩ = some (.int .u8 (accHi q : Int)) := hX4.cell rfl
  clear hX3 hf3 hf4
  generalize accLo q = lo at *
  generalize accHi q = hi at *
  have hb1 := (l.getD 1 0).toNat_lt
  have hb2 := (l.getD 2 0).toNat_lt
  refine sA [] rfl ?_
  refine ev_draw mixed (by kernel_rfl) ?_
  refine qD rfl ?_; refine qD rfl ?_; refine qD rfl ?_
  refine q_splitD 25 rfl (fun h5 => ?_) (fun h5 => ?_)
  · refine qA rfl ?_; refine q_index rfl rfl tabOk rfl rfl rfl (by omega) (by omega) ?_; refine qA rfl ?_; refine q_load rfl rfl tabOk rfl rfl (fun _ hf => cell_fr (by assumption) hf id) ?_; refine qD rfl ?_; refine qD rfl ?_
    refine q_splitD 31 rfl (fun h6 => ?_) (fun h6 => ?_)
    · refine qA rfl ?_
      refine q_end fun w5 hf5 => ?_
      refine sA [] rfl ?_
      exact ret1 (.inr rfl) rfl rfl (no1 _ (hf04.tr hf5) (fun h => by have := (hhg.1 h).2.2.1 (by omega); have h6 : ((l.getD 1 0).toNat : Int) < lo := h6; omega))
    · refine qA rfl ?_; refine q_load rfl rfl tabOk rfl rfl (fun _ hf => cell_fr (by assumption) hf id) ?_; refine qA rfl ?_; refine q_index rfl rfl tabOk rfl rfl rfl (by omega) (by omega) ?_; refine qA rfl ?_
      refine q_end fun w5 hf5 => ?_
      refine ev_condD rfl (fun h7 => ?_) (fun h7 => ?_)
      · refine sA [] rfl ?_
        exact ret1 (.inr rfl) rfl rfl (no1 _ (hf04.tr hf5) (fun h => by have := (hhg.1 h).2.2.1 (by omega); have h7 : (hi : Int) < ((l.getD 1 0).toNat : Int) := h7; omega))
      · have hl1 : lo ≤ (l.getD 1 0).toNat ∧ (l.getD 1 0).toNat ≤ hi := by
          have h6 : ¬ ((l.getD 1 0).toNat : Int) < lo := h6
          have h7 : ¬ (hi : Int) < ((l.getD 1 0).toNat : Int) := h7
          omega
        have hf05 := hf04.tr hf5
        refine sC [] rfl ?_; refine sD [] rfl ?_
        refine ev_guardD rfl rfl (fun h8 => ?_) (fun h8 => ?_)
        · refine sA [] rfl ?_; refine ev_index rfl rfl tabOk rfl rfl rfl (by omega) (by omega) ?_; refine sD [] rfl ?_; refine sD [] rfl ?_
          rw [show (2 : Int).toNat = 2 from rfl]
          refine ev_guardD rfl rfl (fun h9 => ?_) (fun h9 => ?_)
          · refine sA [] rfl ?_
            exact ret1 (.inr rfl) rfl rfl (no1 _ hf05 (fun h => by have := (hhg.1 h).2.2.2 (by omega); omega))
          · refine sA [] rfl ?_; refine ev_index rfl rfl tabOk rfl rfl rfl (by omega) (by omega) ?_; refine sC [] rfl ?_
            rw [show (2 : Int).toNat = 2 from rfl]
            refine ev_condD rfl (fun h10 => ?_) (fun h10 => ?_)
            · refine sA [] rfl ?_
              exact ret1 (.inr rfl) rfl rfl (no1 _ hf05 (fun h => by have := (hhg.1 h).2.2.2 (by omega); omega))
            · refine sA [] rfl ?_
              exact ret1 (.inr rfl) rfl rfl (yes1 _ hf05 (hhg.2 ⟨hl, by omega, fun _ => hl1, fun _ => by omega⟩))
        · refine sA [] rfl ?_
          exact ret1 (.inr rfl) rfl rfl (yes1 _ hf05 (hhg.2 ⟨hl, by omega, fun _ => hl1, fun _ => by omega⟩))
  · refine qA rfl ?_
    refine q_end fun w5 hf5 => ?_
    have hf05 := hf04.tr hf5
    refine sC [] rfl ?_; refine sD [] rfl ?_; refine sD [] rfl ?_
    refine ev_guardD rfl rfl (fun h8 => by omega) (fun h8 => ?_)
    refine sA [] rfl ?_
    exact ret1 (.inr rfl) rfl rfl (yes1 _ hf05 (hhg.2 ⟨hl, by omega, fun h => by omega, fun h => by omega⟩))

/-- how many bytes at a text's end are a half character -/
def hlf (s : List UInt8) : Nat := if 3 ≤ s.length ∧ halfP (s.drop (s.length - 3)) then 3 else if 2 ≤ s.length ∧ halfP (s.drop (s.length - 2)) then 2 else if 1 ≤ s.length ∧ halfP (s.drop (s.length - 1)) then 1 else 0
theorem hlf_of {s : List UInt8} {n : Nat} (h1 : n ≤ s.length) (h3 : n ≤ 3) (hn : 0 < n → halfP (s.drop (s.length - n))) (hm : ∀ m, n < m → m ≤ s.length → m ≤ 3 → ¬ halfP (s.drop (s.length - m))) : hlf s = n := by
  unfold hlf
  rcases (show n = 0 ∨ n = 1 ∨ n = 2 ∨ n = 3 by omega) with rfl | rfl | rfl | rfl
  · rw [if_neg (fun h => hm 3 (by omega) h.1 (by omega) h.2), if_neg (fun h => hm 2 (by omega) h.1 (by omega) h.2), if_neg (fun h => hm 1 (by omega) h.1 (by omega) h.2)]
  · rw [if_neg (fun h => hm 3 (by omega) h.1 (by omega) h.2), if_neg (fun h => hm 2 (by omega) h.1 (by omega) h.2), if_pos ⟨h1, hn (by omega)⟩]
  · rw [if_neg (fun h => hm 3 (by omega) h.1 (by omega) h.2), if_pos ⟨h1, hn (by omega)⟩]
  · rw [if_pos ⟨h1, hn (by omega)⟩]

theorem wHalf (s : List UInt8) (w : World) (hs : s.length ≤ 9223372036854775806) (hT : UT w) : CallsF Tryd.prog 52 [.string (sOf s)] w fun r w' => r = .int .i64 (hlf s) ∧ Fr no w w' := by
  refine callsF Tryd.func52 rfl rfl (by decide) rfl ?_
  refine sA [] rfl ?_
  rw [show (if (3 : Int) < (s.length : Nat) then (3 : Int) else (s.length : Nat)) = ((min s.length 3 : Nat) : Int) by split <;> omega]
  refine ev_loop (α := Nat) (fun n => [(0, .string (sOf s)), (3, .int .i64 n)]) (fun n w' => n ≤ min s.length 3 ∧ (∀ m, n < m → m ≤ s.length → m ≤ 3 → ¬ halfP (s.drop (s.length - m))) ∧ Fr no w w') (fun n => n) (min s.length 3) ⟨rfl, rfl, trivial⟩ ⟨Nat.le_refl _, fun m h1 h2 h3 => by omega, Fr.refl _ _⟩ ?_
  rintro n w1 ⟨hn, hm, hf⟩
  refine sC [] rfl ?_; refine sD [] rfl ?_; refine sD [] rfl ?_
  refine ev_condD rfl (fun h0 => ?_) (fun h0 => ?_)
  · have ed : (s.take (s.length : Int).toNat).drop ((s.length : Int) - (n : Int)).toNat = s.drop (s.length - n) := by rw [Int.toNat_natCast, List.take_length]; congr 1; omega
    have hll : (s.drop (s.length - n)).length = n := by rw [List.length_drop]; omega
    refine sA [] rfl ?_; refine ev_arith rfl rfl rfl rfl rfl (by simp only [lowK, hiK]; omega) ?_
    refine ev_sliceStr rfl rfl tabOk rfl rfl rfl rfl (by omega) (by omega) (by omega) ?_
    rw [ed]
    obtain ⟨l, hl⟩ : ∃ l, l = s.drop (s.length - n) := ⟨_, rfl⟩
    rw [← hl] at hll ⊢
    refine sA [] rfl ?_; refine ev_index rfl rfl tabOk rfl rfl rfl (by omega) (by omega) ?_
    rw [show (0 : Int).toNat = 0 from rfl]
    refine ev_call rfl rfl rfl (runeStart _ _) (fun q w2 hq => ?_)
    obtain ⟨rfl, rfl⟩ := hq
    have next : ∀ w3, Fr no w w3 → ¬ halfP l → n - 1 ≤ min s.length 3 ∧ (∀ m, n - 1 < m → m ≤ s.length → m ≤ 3 → ¬ halfP (s.drop (s.length - m))) ∧ Fr no w w3 := fun w3 hf3 hno => ⟨by omega, fun m h1 h2 h3 => by
      by_cases h : m = n
      · subst h; rw [← hl]; exact hno
      · exact hm m (by omega) h2 h3, hf3⟩
    have e1 : (n : Int) - 1 = ((n - 1 : Nat) : Int) := by omega
    refine sD [] rfl ?_
    refine ev_guardD rfl rfl (fun h1 => ?_) (fun h1 => ?_)
    · refine sA [] rfl ?_
      refine ev_call rfl rfl rfl (fullRune l _ (by omega) (by omega) (hT.fr0 hf)) (fun q w3 hq => ?_)
      obtain ⟨rfl, hf3⟩ := hq
      rw [show decide (halfP l) = decide (halfP l) from rfl]
      by_cases hh : halfP l
      · rw [decide_eq_true hh]
        have e := hlf_of (s := s) (n := n) (by omega) (by omega) (fun _ => hl ▸ hh) hm
        refine sA [] rfl ?_
        exact ret1 (.inr rfl) rfl rfl ⟨by rw [e], hf.tr hf3⟩
      · rw [decide_eq_false hh]
        refine sA [] rfl ?_; refine ev_arith rfl rfl rfl rfl rfl (by simp only [lowK, hiK]; omega) ?_; refine sA [] rfl ?_
        rw [e1]
        exact ev_next (n - 1) (by omega) (next _ (hf.tr hf3) hh) ⟨rfl, rfl, trivial⟩
    · have hh : ¬ halfP l := fun h => h1 (half_start h)
      refine sA [] rfl ?_; refine ev_arith rfl rfl rfl rfl rfl (by simp only [lowK, hiK]; omega) ?_; refine sA [] rfl ?_
      rw [e1]
      exact ev_next (n - 1) (by omega) (next _ hf hh) ⟨rfl, rfl, trivial⟩
  · have hn0 : n = 0 := by omega
    subst hn0
    have e := hlf_of (s := s) (n := 0) (by omega) (by omega) (fun h => by omega) hm
    refine sA [] rfl ?_
    exact ret1 (.inr rfl) rfl rfl ⟨by rw [e]; rfl, hf⟩
end Go.Wk.YtpnhfkmgnkdleaaDoor
