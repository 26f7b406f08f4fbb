/-
  The unquoter in plain Lean: what it reads of a text; that what is read is clean; that what goes wrong at a place goes wrong there whatever stands behind.
-/
import Derived.Test.YtpnhfkmgnkdleaaDoorSqD
import Derived.Test.YtpnhfkmgnkdleaaDoorStW
set_option linter.unusedVariables false
namespace Go.Wk.YtpnhfkmgnkdleaaDoor
open Go Go.Wk Go.Proofs

/-- a character: right?, its bytes, the place -/
def charF (t : List UInt8) (q : Nat) : Bool × List UInt8 × Nat :=
  if good (t.drop q) then (true, (t.drop q).take (wid (t.drop q)), q + wid (t.drop q)) else (false, [], q + fits (t.drop q))
/-- a step: what stands at a place that is no quote -/
def oneF (t : List UInt8) (q : Nat) : Bool × List UInt8 × Nat := if t.getD q 0 = 92 then escF t (q + 1) else charF t q
def readF : Nat → List UInt8 → Nat → List UInt8 → Bool × List UInt8 × Nat
  | 0, _, q, _ => (false, [], q)
  | f + 1, t, q, out =>
    if ¬ q < t.length then (false, [], q)
    else if (t.getD q 0).toNat < 32 then (false, [], q)
    else if t.getD q 0 = 34 then (if q + 1 < t.length then (false, [], q + 1) else (true, out, q + 1))
    else if (oneF t q).1 = true then readF f t (oneF t q).2.2 (out ++ (oneF t q).2.1)
    else (false, [], (oneF t q).2.2)
def unqF (t : List UInt8) : Bool × List UInt8 × Nat := if 0 < t.length ∧ t.getD 0 0 = 34 then readF (t.length + 1) t 1 [] else (false, [], 0)

theorem escF_good {t : List UInt8} {q : Nat} (h : (escF t q).1 = true) : q < (escF t q).2.2 ∧ (escF t q).2.2 ≤ t.length ∧ (escF t q).2.1.length ≤ 4 := by
  unfold escF at h ⊢
  by_cases h1 : ¬ q < t.length
  · rw [if_pos h1] at h; cases h
  rw [if_neg h1] at h ⊢
  by_cases h2 : ltr (t.getD q 0) ≠ 0
  · rw [if_pos h2] at h ⊢
    exact ⟨by simp, by simp only; omega, by simp⟩
  rw [if_neg h2] at h ⊢
  by_cases h3 : t.getD q 0 ≠ 117
  · rw [if_pos h3] at h; cases h
  rw [if_neg h3] at h ⊢
  by_cases h4 : (four t false (q + 1)).1 = false
  · rw [if_pos h4] at h; cases h
  rw [if_neg h4] at h ⊢
  have ha : (four t false (q + 1)).2.2 = q + 1 + 4 := four_at (t := t) (low := false) 4 0 0 (q + 1) (by simpa using h4)
  have hl : (four t false (q + 1)).2.2 ≤ t.length := four_le (t := t) (low := false) 4 0 0 (q + 1) (by omega)
  by_cases h5 : 55296 ≤ (four t false (q + 1)).2.1 ∧ (four t false (q + 1)).2.1 < 56320
  · rw [if_pos h5] at h ⊢
    by_cases h6 : ¬ (q + 5 < t.length ∧ t.getD (q + 5) 0 = 92)
    · rw [if_pos h6] at h; cases h
    rw [if_neg h6] at h ⊢
    by_cases h7 : ¬ (q + 6 < t.length ∧ t.getD (q + 6) 0 = 117)
    · rw [if_pos h7] at h; cases h
    rw [if_neg h7] at h ⊢
    by_cases h8 : (four t true (q + 7)).1 = false
    · rw [if_pos h8] at h; cases h
    rw [if_neg h8] at h ⊢
    have hb : (four t true (q + 7)).2.2 = q + 7 + 4 := four_at (t := t) (low := true) 4 0 0 (q + 7) (by simpa using h8)
    have hm : (four t true (q + 7)).2.2 ≤ t.length := four_le (t := t) (low := true) 4 0 0 (q + 7) (by omega)
    exact ⟨by simp only; omega, by simp only; omega, rb_len _⟩
  · rw [if_neg h5] at h ⊢
    exact ⟨by simp only; omega, by simp only; omega, rb_len _⟩
theorem escF_le {t : List UInt8} {q : Nat} (hq : q ≤ t.length) : q ≤ (escF t q).2.2 ∧ (escF t q).2.2 ≤ t.length := by
  have fge : ∀ {low : Bool} (f k : Nat) (n : Int) (q : Nat), q ≤ (fourF t low f k n q).2.2 := fun {low} f => by
    induction f with
    | zero => intro k n q; exact Nat.le_refl _
    | succ f ih =>
      intro k n q
      by_cases hb : fBad t low k n q
      · rw [fourF_bad hb]; exact Nat.le_refl _
      · rw [fourF_go hb]; exact Nat.le_trans (by omega) (ih _ _ (q + 1))
  by_cases hg : (escF t q).1 = true
  · have := escF_good hg; omega
  unfold escF at hg ⊢
  by_cases h1 : ¬ q < t.length
  · rw [if_pos h1]; exact ⟨Nat.le_refl _, hq⟩
  rw [if_neg h1] at hg ⊢
  by_cases h2 : ltr (t.getD q 0) ≠ 0
  · rw [if_pos h2] at hg; exact absurd rfl hg
  rw [if_neg h2] at hg ⊢
  by_cases h3 : t.getD q 0 ≠ 117
  · rw [if_pos h3]; exact ⟨Nat.le_refl _, hq⟩
  rw [if_neg h3] at hg ⊢
  have hl : (four t false (q + 1)).2.2 ≤ t.length := four_le (t := t) (low := false) 4 0 0 (q + 1) (by omega)
  by_cases h4 : (four t false (q + 1)).1 = false
  · rw [if_pos h4]; exact ⟨Nat.le_trans (by omega) (fge (low := false) 4 0 0 (q + 1)), hl⟩
  rw [if_neg h4] at hg ⊢
  have ha : (four t false (q + 1)).2.2 = q + 1 + 4 := four_at (t := t) (low := false) 4 0 0 (q + 1) (by simpa using h4)
  by_cases h5 : 55296 ≤ (four t false (q + 1)).2.1 ∧ (four t false (q + 1)).2.1 < 56320
  · rw [if_pos h5] at hg ⊢
    by_cases h6 : ¬ (q + 5 < t.length ∧ t.getD (q + 5) 0 = 92)
    · rw [if_pos h6]; exact ⟨by simp only; omega, by simp only; omega⟩
    rw [if_neg h6] at hg ⊢
    by_cases h7 : ¬ (q + 6 < t.length ∧ t.getD (q + 6) 0 = 117)
    · rw [if_pos h7]; exact ⟨by simp only; omega, by simp only; omega⟩
    rw [if_neg h7] at hg ⊢
    have h7' : q + 6 < t.length := (Decidable.not_not.1 h7).1
    have hm : (four t true (q + 7)).2.2 ≤ t.length := four_le (t := t) (low := true) 4 0 0 (q + 7) (by omega)
    by_cases h8 : (four t true (q + 7)).1 = false
    · rw [if_pos h8]; exact ⟨Nat.le_trans (by omega) (fge (low := true) 4 0 0 (q + 7)), hm⟩
    rw [if_neg h8] at hg; exact absurd rfl hg
  · rw [if_neg h5] at hg; exact absurd rfl hg
theorem charF_good {t : List UInt8} {q : Nat} (hq : q < t.length) (h : (charF t q).1 = true) : q < (charF t q).2.2 ∧ (charF t q).2.2 ≤ t.length ∧ (charF t q).2.1.length ≤ 4 := by
  unfold charF at h ⊢
  by_cases hg : good (t.drop q)
  · rw [if_pos hg]
    have h1 := wid_pos (t.drop q)
    have h2 := wid_le (l := t.drop q) (by rw [List.length_drop]; omega)
    have h3 := fits_le (t.drop q)
    have h4 := siz_le ((t.drop q).getD 0 0)
    have h5 : wid (t.drop q) = fits (t.drop q) := if_pos hg
    rw [List.length_drop] at h2
    refine ⟨by simp only; omega, by simp only; omega, ?_⟩
    rw [List.length_take]; omega
  · rw [if_neg hg] at h; cases h
theorem charF_le {t : List UInt8} {q : Nat} (hq : q < t.length) : q ≤ (charF t q).2.2 ∧ (charF t q).2.2 ≤ t.length := by
  by_cases hg : (charF t q).1 = true
  · have := charF_good hq hg; omega
  · unfold charF at hg ⊢
    by_cases h : good (t.drop q)
    · rw [if_pos h] at hg; exact absurd rfl hg
    · rw [if_neg h]
      have h3 := (fits_le (t.drop q)).1
      rw [List.length_drop] at h3
      exact ⟨by simp only; omega, by simp only; omega⟩
theorem oneF_good {t : List UInt8} {q : Nat} (hq : q < t.length) (h : (oneF t q).1 = true) : q < (oneF t q).2.2 ∧ (oneF t q).2.2 ≤ t.length ∧ (oneF t q).2.1.length ≤ 4 := by
  unfold oneF at h ⊢
  by_cases hc : t.getD q 0 = 92
  · rw [if_pos hc] at h ⊢
    have := escF_good h
    exact ⟨by omega, this.2⟩
  · rw [if_neg hc] at h ⊢
    exact charF_good hq h
theorem oneF_le {t : List UInt8} {q : Nat} (hq : q < t.length) : q ≤ (oneF t q).2.2 ∧ (oneF t q).2.2 ≤ t.length := by
  unfold oneF
  by_cases hc : t.getD q 0 = 92
  · rw [if_pos hc]
    have := escF_le (t := t) (q := q + 1) (by omega)
    exact ⟨by omega, this.2⟩
  · rw [if_neg hc]; exact charF_le hq
theorem readF_le : ∀ (f : Nat) {t : List UInt8} {q : Nat} {out : List UInt8}, q ≤ t.length → q ≤ (readF f t q out).2.2 ∧ (readF f t q out).2.2 ≤ t.length
  | 0, t, q, out, h => ⟨Nat.le_refl _, h⟩
  | f + 1, t, q, out, h => by
    unfold readF
    split
    · exact ⟨Nat.le_refl _, h⟩
    rename_i h1
    have h1 : q < t.length := Decidable.not_not.1 h1
    split
    · exact ⟨Nat.le_refl _, h⟩
    split
    · split
      · exact ⟨by simp only; omega, by simp only; omega⟩
      · exact ⟨by simp only; omega, by simp only; omega⟩
    split
    · rename_i h4
      obtain ⟨a, b, _⟩ := oneF_good h1 h4
      obtain ⟨c, d⟩ := readF_le f (t := t) (out := out ++ (oneF t q).2.1) b
      exact ⟨by omega, d⟩
    · exact oneF_le h1

/-! what is read is clean -/
def Kl (out : List UInt8) : Prop := ∀ y, clean (out ++ y) = out ++ clean y
theorem Kl.nil : Kl [] := fun _ => rfl
theorem Kl.app {a b : List UInt8} (ha : Kl a) (hb : Kl b) : Kl (a ++ b) := fun y => by rw [List.append_assoc, ha, hb, List.append_assoc]
theorem Kl.clean {a : List UInt8} (h : Kl a) : clean a = a := by
  have := h []
  rwa [List.append_nil, clean_nil, List.append_nil] at this
theorem Kl.good {l : List UInt8} (h : good l) : Kl (l.take (wid l)) := fun y => clean_good h
theorem Kl.seg {s : List UInt8} (h1 : 0 < s.length) (h2 : siz (s.getD 0 0) = s.length) (h3 : ∀ j, 0 < j → j < s.length → lat (s.getD 0 0) j (s.getD j 0)) : Kl s := fun y =>
  clean_seg h1 h2 fun j hj => ⟨hj, by omega, (Nat.eq_zero_or_pos j).imp id fun h => h3 j h hj⟩
theorem u8z {x : Int} (h0 : 0 ≤ x) (h1 : x < 256) : ((UInt8.ofNat x.toNat).toNat : Int) = x := by rw [UInt8.toNat_ofNat']; omega
theorem Kl.rune {r : Int} (h0 : 0 ≤ r) (h1 : r ≤ 1114111) (h2 : ¬ (55296 ≤ r ∧ r ≤ 57343)) : Kl (rb r) := by
  by_cases a1 : r ≤ 127
  · have e : rb r = [UInt8.ofNat r.toNat] := by unfold rb; rw [Lib.encodeRuneZ_one h0 a1]; rfl
    have z := u8z h0 (show r < 256 by omega)
    rw [e]
    refine Kl.seg (by simp) ?_ (fun j hj hj' => absurd hj' (by simp; omega))
    show siz (UInt8.ofNat r.toNat) = 1
    unfold siz; rw [if_pos (by omega)]
  by_cases a2 : r ≤ 2047
  · have e : rb r = [UInt8.ofNat (192 + r / 64).toNat, UInt8.ofNat (128 + r % 64).toNat] := by unfold rb; rw [Lib.encodeRuneZ_two (by omega) a2]; rfl
    have z0 := u8z (x := 192 + r / 64) (by omega) (by omega)
    have z1 := u8z (x := 128 + r % 64) (by omega) (by omega)
    rw [e]
    refine Kl.seg (by simp) ?_ (fun j hj hj' => ?_)
    · show siz (UInt8.ofNat (192 + r / 64).toNat) = 2
      unfold siz; rw [if_neg (by omega), if_pos (by omega)]
    · obtain rfl : j = 1 := by simp at hj'; omega
      show lat (UInt8.ofNat (192 + r / 64).toNat) 1 (UInt8.ofNat (128 + r % 64).toNat)
      unfold lat latLo latHi
      rw [if_pos rfl, if_pos rfl, if_neg (by omega), if_neg (by omega), if_neg (by omega), if_neg (by omega)]
      omega
  by_cases a3 : r ≤ 65535
  · have e : rb r = [UInt8.ofNat (224 + r / 4096).toNat, UInt8.ofNat (128 + r / 64 % 64).toNat, UInt8.ofNat (128 + r % 64).toNat] := by unfold rb; rw [Lib.encodeRuneZ_three (by omega)]; rfl
    have z0 := u8z (x := 224 + r / 4096) (by omega) (by omega)
    have z1 := u8z (x := 128 + r / 64 % 64) (by omega) (by omega)
    have z2 := u8z (x := 128 + r % 64) (by omega) (by omega)
    rw [e]
    refine Kl.seg (by simp) ?_ (fun j hj hj' => ?_)
    · show siz (UInt8.ofNat (224 + r / 4096).toNat) = 3
      unfold siz; rw [if_neg (by omega), if_neg (by omega), if_pos (by omega)]
    · have hj3 : j < 3 := hj'
      rcases (show j = 1 ∨ j = 2 by omega) with rfl | rfl
      · show lat (UInt8.ofNat (224 + r / 4096).toNat) 1 (UInt8.ofNat (128 + r / 64 % 64).toNat)
        unfold lat latLo latHi
        rw [if_pos rfl, if_pos rfl]
        constructor
        · split; omega; split <;> omega
        · split; omega; split <;> omega
      · show lat (UInt8.ofNat (224 + r / 4096).toNat) 2 (UInt8.ofNat (128 + r % 64).toNat)
        unfold lat latLo latHi
        rw [if_neg (by decide), if_neg (by decide)]
        omega
  · have e : rb r = [UInt8.ofNat (240 + r / 262144).toNat, UInt8.ofNat (128 + r / 4096 % 64).toNat, UInt8.ofNat (128 + r / 64 % 64).toNat, UInt8.ofNat (128 + r % 64).toNat] := by unfold rb; rw [Lib.encodeRuneZ_four (by omega) h1]; rfl
    have z0 := u8z (x := 240 + r / 262144) (by omega) (by omega)
    have z1 := u8z (x := 128 + r / 4096 % 64) (by omega) (by omega)
    have z2 := u8z (x := 128 + r / 64 % 64) (by omega) (by omega)
    have z3 := u8z (x := 128 + r % 64) (by omega) (by omega)
    rw [e]
    refine Kl.seg (by simp) ?_ (fun j hj hj' => ?_)
    · show siz (UInt8.ofNat (240 + r / 262144).toNat) = 4
      unfold siz; rw [if_neg (by omega), if_neg (by omega), if_neg (by omega), if_pos (by omega)]
    · have hj3 : j < 4 := hj'
      rcases (show j = 1 ∨ j = 2 ∨ j = 3 by omega) with rfl | rfl | rfl
      · show lat (UInt8.ofNat (240 + r / 262144).toNat) 1 (UInt8.ofNat (128 + r / 4096 % 64).toNat)
        unfold lat latLo latHi
        rw [if_pos rfl, if_pos rfl]
        constructor
        · split; omega; split <;> omega
        · split; omega; split <;> omega
      · show lat (UInt8.ofNat (240 + r / 262144).toNat) 2 (UInt8.ofNat (128 + r / 64 % 64).toNat)
        unfold lat latLo latHi
        rw [if_neg (by decide), if_neg (by decide)]
        omega
      · show lat (UInt8.ofNat (240 + r / 262144).toNat) 3 (UInt8.ofNat (128 + r % 64).toNat)
        unfold lat latLo latHi
        rw [if_neg (by decide), if_neg (by decide)]
        omega
/-- four digits: the first ones told -/
theorem four_low {t : List UInt8} {low : Bool} {q : Nat} (h : (four t low q).1 = true) : (low = false → ¬ (56320 ≤ (four t low q).2.1 ∧ (four t low q).2.1 ≤ 57343)) ∧ (low = true → 56320 ≤ (four t low q).2.1 ∧ (four t low q).2.1 ≤ 57343) := by
  unfold four at h ⊢
  by_cases b0 : fBad t low 0 0 q
  · rw [fourF_bad b0] at h; cases h
  have g0 := hx_good b0
  rw [fourF_go b0] at h ⊢
  by_cases b1 : fBad t low (0 + 1) (16 * 0 + hx (t.getD q 0)) (q + 1)
  · rw [fourF_bad b1] at h; cases h
  have g1 := hx_good b1
  rw [fourF_go b1] at h ⊢
  have c0 : ¬ (low = true ∧ hx (t.getD q 0) ≠ 13) := fun z => b0 (.inr (.inr (.inl ⟨rfl, z⟩)))
  have c1 : decide (16 * 0 + hx (t.getD q 0) = 13 ∧ 12 ≤ hx (t.getD (q + 1) 0)) = low := Decidable.not_not.1 fun z => b1 (.inr (.inr (.inr ⟨rfl, z⟩)))
  generalize hx (t.getD q 0) = x0 at *
  generalize hx (t.getD (q + 1) 0) = x1 at *
  by_cases b2 : fBad t low (0 + 1 + 1) (16 * (16 * 0 + x0) + x1) (q + 1 + 1)
  · rw [fourF_bad b2] at h; cases h
  have g2 := hx_good b2
  rw [fourF_go b2] at h ⊢
  generalize hx (t.getD (q + 1 + 1) 0) = x2 at *
  by_cases b3 : fBad t low (0 + 1 + 1 + 1) (16 * (16 * (16 * 0 + x0) + x1) + x2) (q + 1 + 1 + 1)
  · rw [fourF_bad b3] at h; cases h
  have g3 := hx_good b3
  rw [fourF_go b3]
  generalize hx (t.getD (q + 1 + 1 + 1) 0) = x3 at *
  show (low = false → ¬ (56320 ≤ 16 * (16 * (16 * (16 * 0 + x0) + x1) + x2) + x3 ∧ 16 * (16 * (16 * (16 * 0 + x0) + x1) + x2) + x3 ≤ 57343)) ∧ (low = true → 56320 ≤ 16 * (16 * (16 * (16 * 0 + x0) + x1) + x2) + x3 ∧ 16 * (16 * (16 * (16 * 0 + x0) + x1) + x2) + x3 ≤ 57343)
  refine ⟨fun e => ?_, fun e => ?_⟩
  · subst e
    have := of_decide_eq_false c1
    omega
  · subst e
    have := of_decide_eq_true c1
    omega
theorem escF_clean {t : List UInt8} {q : Nat} (h : (escF t q).1 = true) : Kl (escF t q).2.1 := by
  unfold escF at h ⊢
  by_cases h1 : ¬ q < t.length
  · rw [if_pos h1] at h; cases h
  rw [if_neg h1] at h ⊢
  by_cases h2 : ltr (t.getD q 0) ≠ 0
  · rw [if_pos h2] at h ⊢
    have hl : (ltr (t.getD q 0)).toNat < 128 := by
      have key : ∀ n : Fin 256, (ltr (UInt8.ofNat n.val)).toNat < 128 := by decide +kernel
      have := key ⟨(t.getD q 0).toNat, (t.getD q 0).toNat_lt⟩
      simpa using this
    exact Kl.seg (by simp) (asc_siz hl).1 (fun j hj hj' => absurd hj' (by simp; omega))
  rw [if_neg h2] at h ⊢
  by_cases h3 : t.getD q 0 ≠ 117
  · rw [if_pos h3] at h; cases h
  rw [if_neg h3] at h ⊢
  by_cases h4 : (four t false (q + 1)).1 = false
  · rw [if_pos h4] at h; cases h
  rw [if_neg h4] at h ⊢
  have h4' : (four t false (q + 1)).1 = true := by simpa using h4
  have hb := four_bd h4'
  have hl := (four_low h4').1 rfl
  by_cases h5 : 55296 ≤ (four t false (q + 1)).2.1 ∧ (four t false (q + 1)).2.1 < 56320
  · rw [if_pos h5] at h ⊢
    by_cases h6 : ¬ (q + 5 < t.length ∧ t.getD (q + 5) 0 = 92)
    · rw [if_pos h6] at h; cases h
    rw [if_neg h6] at h ⊢
    by_cases h7 : ¬ (q + 6 < t.length ∧ t.getD (q + 6) 0 = 117)
    · rw [if_pos h7] at h; cases h
    rw [if_neg h7] at h ⊢
    by_cases h8 : (four t true (q + 7)).1 = false
    · rw [if_pos h8] at h; cases h
    rw [if_neg h8] at h ⊢
    have hl2 := (four_low (t := t) (low := true) (q := q + 7) (by simpa using h8)).2 rfl
    exact Kl.rune (by omega) (by omega) (by omega)
  · rw [if_neg h5] at h ⊢
    exact Kl.rune (by omega) (by omega) (by omega)
theorem oneF_clean {t : List UInt8} {q : Nat} (h : (oneF t q).1 = true) : Kl (oneF t q).2.1 := by
  unfold oneF at h ⊢
  by_cases hc : t.getD q 0 = 92
  · rw [if_pos hc] at h ⊢; exact escF_clean h
  · rw [if_neg hc] at h ⊢
    unfold charF at h ⊢
    by_cases hg : good (t.drop q)
    · rw [if_pos hg]; exact Kl.good hg
    · rw [if_neg hg] at h; cases h
theorem readF_clean : ∀ (f : Nat) {t : List UInt8} {q : Nat} {out : List UInt8}, Kl out → (readF f t q out).1 = true → Kl (readF f t q out).2.1
  | 0, t, q, out, hk, h => by cases h
  | f + 1, t, q, out, hk, h => by
    unfold readF at h ⊢
    by_cases h1 : ¬ q < t.length
    · rw [if_pos h1] at h; cases h
    rw [if_neg h1] at h ⊢
    by_cases h2 : (t.getD q 0).toNat < 32
    · rw [if_pos h2] at h; cases h
    rw [if_neg h2] at h ⊢
    by_cases h3 : t.getD q 0 = 34
    · rw [if_pos h3] at h ⊢
      by_cases h4 : q + 1 < t.length
      · rw [if_pos h4] at h; cases h
      · rw [if_neg h4]; exact hk
    rw [if_neg h3] at h ⊢
    by_cases h5 : (oneF t q).1 = true
    · rw [if_pos h5] at h ⊢
      exact readF_clean f (hk.app (oneF_clean h5)) h
    · rw [if_neg h5] at h; cases h
theorem unqF_clean {t : List UInt8} (h : (unqF t).1 = true) : clean (unqF t).2.1 = (unqF t).2.1 := by
  unfold unqF at h ⊢
  by_cases h1 : 0 < t.length ∧ t.getD 0 0 = 34
  · rw [if_pos h1] at h ⊢; exact (readF_clean _ Kl.nil h).clean
  · rw [if_neg h1] at h; cases h

/-! what goes wrong at a place goes wrong there whatever stands behind -/
/-- two texts that begin alike, m bytes far -/
def Agr (t u : List UInt8) (m : Nat) : Prop := m ≤ t.length ∧ m ≤ u.length ∧ ∀ i, i < m → t.getD i 0 = u.getD i 0
theorem agr_take {t b : List UInt8} {m : Nat} (h : m ≤ t.length) : Agr t (t.take m ++ b) m := by
  refine ⟨h, by rw [List.length_append, List.length_take]; omega, fun i hi => ?_⟩
  rw [List.getD_eq_getElem?_getD, List.getD_eq_getElem?_getD, List.getElem?_append_left (by rw [List.length_take]; omega), List.getElem?_take, if_pos hi]
theorem fBad_agr {t u : List UInt8} {m : Nat} (h : Agr t u m) {low : Bool} {k : Nat} {n : Int} {q : Nat} (hq : q < m) : fBad t low k n q ↔ fBad u low k n q := by
  unfold fBad
  rw [h.2.2 q hq]
  have h1 := h.1
  have h2 := h.2.1
  rw [eq_false (show ¬ ¬ q < t.length from fun z => z (by omega)), eq_false (show ¬ ¬ q < u.length from fun z => z (by omega))]
theorem fourF_agr {t u : List UInt8} {m : Nat} (h : Agr t u m) {low : Bool} : ∀ (f k : Nat) (n : Int) (q : Nat), ((fourF t low f k n q).1 = true → (fourF t low f k n q).2.2 ≤ m) → ((fourF t low f k n q).1 = false → (fourF t low f k n q).2.2 < m) → fourF u low f k n q = fourF t low f k n q
  | 0, k, n, q, _, _ => rfl
  | f + 1, k, n, q, h1, h2 => by
    by_cases hb : fBad t low k n q
    · rw [fourF_bad hb] at h1 h2 ⊢
      exact fourF_bad ((fBad_agr h (h2 rfl)).1 hb)
    · rw [fourF_go hb] at h1 h2 ⊢
      have ge : ∀ (f k : Nat) (n : Int) (q : Nat), q ≤ (fourF t low f k n q).2.2 := fun f => by
        induction f with
        | zero => intro k n q; exact Nat.le_refl _
        | succ f ih =>
          intro k n q
          by_cases hb : fBad t low k n q
          · rw [fourF_bad hb]; exact Nat.le_refl _
          · rw [fourF_go hb]; exact Nat.le_trans (by omega) (ih _ _ (q + 1))
      have hge := ge f (k + 1) (16 * n + hx (t.getD q 0)) (q + 1)
      have hq : q < m := by
        cases hx1 : (fourF t low f (k + 1) (16 * n + hx (t.getD q 0)) (q + 1)).1 with
        | true => have := h1 hx1; omega
        | false => have := h2 hx1; omega
      rw [fourF_go (fun z => hb ((fBad_agr h hq).2 z)), ← h.2.2 q hq]
      exact fourF_agr h f _ _ _ h1 h2
theorem escF_agr {t u : List UInt8} {m : Nat} (h : Agr t u m) {q : Nat} (hT : (escF t q).1 = true → (escF t q).2.2 ≤ m) (hF : (escF t q).1 = false → (escF t q).2.2 < m) : escF u q = escF t q := by
  have h1' := h.1
  have h2' := h.2.1
  have fge : ∀ {low : Bool} (f k : Nat) (n : Int) (q : Nat), q ≤ (fourF t low f k n q).2.2 := fun {low} f => by
    induction f with
    | zero => intro k n q; exact Nat.le_refl _
    | succ f ih =>
      intro k n q
      by_cases hb : fBad t low k n q
      · rw [fourF_bad hb]; exact Nat.le_refl _
      · rw [fourF_go hb]; exact Nat.le_trans (by omega) (ih _ _ (q + 1))
  unfold escF at hT hF ⊢
  by_cases h1 : ¬ q < t.length
  · rw [if_pos h1] at hT hF ⊢
    have := hF rfl
    simp only at this
    exact absurd (Nat.lt_of_lt_of_le this h1') h1
  rw [if_neg h1] at hT hF ⊢
  by_cases hqm : q < m
  case neg =>
    exfalso
    by_cases h2 : ltr (t.getD q 0) ≠ 0
    · rw [if_pos h2] at hT; have := hT rfl; simp only at this; omega
    rw [if_neg h2] at hT hF
    by_cases h3 : t.getD q 0 ≠ 117
    · rw [if_pos h3] at hF; have := hF rfl; simp only at this; omega
    rw [if_neg h3] at hT hF
    have g1 := fge (low := false) 4 0 0 (q + 1)
    by_cases h4 : (four t false (q + 1)).1 = false
    · rw [if_pos h4] at hF; have := hF rfl; simp only at this; unfold four at this; omega
    rw [if_neg h4] at hT hF
    by_cases h5 : 55296 ≤ (four t false (q + 1)).2.1 ∧ (four t false (q + 1)).2.1 < 56320
    · rw [if_pos h5] at hT hF
      by_cases h6 : ¬ (q + 5 < t.length ∧ t.getD (q + 5) 0 = 92)
      · rw [if_pos h6] at hF; have := hF rfl; simp only at this; omega
      rw [if_neg h6] at hT hF
      by_cases h7 : ¬ (q + 6 < t.length ∧ t.getD (q + 6) 0 = 117)
      · rw [if_pos h7] at hF; have := hF rfl; simp only at this; omega
      rw [if_neg h7] at hT hF
      have g2 := fge (low := true) 4 0 0 (q + 7)
      by_cases h8 : (four t true (q + 7)).1 = false
      · rw [if_pos h8] at hF; have := hF rfl; simp only at this; unfold four at this; omega
      rw [if_neg h8] at hT; have := hT rfl; simp only at this; omega
    · rw [if_neg h5] at hT; have := hT rfl; simp only at this; omega
  rw [if_neg (show ¬ ¬ q < u.length from fun z => z (by omega)), ← h.2.2 q hqm]
  by_cases h2 : ltr (t.getD q 0) ≠ 0
  · rw [if_pos h2, if_pos h2]
  rw [if_neg h2] at hT hF ⊢
  rw [if_neg h2]
  by_cases h3 : t.getD q 0 ≠ 117
  · rw [if_pos h3, if_pos h3]
  rw [if_neg h3] at hT hF ⊢
  rw [if_neg h3]
  have g1 := fge (low := false) 4 0 0 (q + 1)
  by_cases h4 : (four t false (q + 1)).1 = false
  · rw [if_pos h4] at hT hF ⊢
    have e : four u false (q + 1) = four t false (q + 1) := fourF_agr h 4 0 0 (q + 1) (fun z => by unfold four at h4; rw [h4] at z; cases z) (fun _ => hF rfl)
    rw [e, if_pos h4]
  rw [if_neg h4] at hT hF ⊢
  have ha : (four t false (q + 1)).2.2 = q + 1 + 4 := four_at (t := t) (low := false) 4 0 0 (q + 1) (by simpa using h4)
  have e : q + 5 ≤ m → four u false (q + 1) = four t false (q + 1) := fun hm => fourF_agr h 4 0 0 (q + 1) (fun _ => by unfold four at ha; omega) (fun z => absurd z h4)
  by_cases h5 : 55296 ≤ (four t false (q + 1)).2.1 ∧ (four t false (q + 1)).2.1 < 56320
  · rw [if_pos h5] at hT hF ⊢
    by_cases h6 : ¬ (q + 5 < t.length ∧ t.getD (q + 5) 0 = 92)
    · rw [if_pos h6] at hF hT ⊢
      have hm : q + 5 < m := hF rfl
      rw [e (by omega), if_neg h4, if_pos h5]
      have h6' : ¬ (q + 5 < u.length ∧ u.getD (q + 5) 0 = 92) := fun z => h6 ⟨by omega, by rw [h.2.2 _ hm]; exact z.2⟩
      rw [if_pos h6']
    rw [if_neg h6] at hT hF ⊢
    have h6t := Decidable.not_not.1 h6
    by_cases h7 : ¬ (q + 6 < t.length ∧ t.getD (q + 6) 0 = 117)
    · rw [if_pos h7] at hF hT ⊢
      have hm : q + 6 < m := hF rfl
      rw [e (by omega), if_neg h4, if_pos h5]
      have h6' : ¬ ¬ (q + 5 < u.length ∧ u.getD (q + 5) 0 = 92) := fun z => z ⟨by omega, by rw [← h.2.2 _ (by omega)]; exact h6t.2⟩
      have h7' : ¬ (q + 6 < u.length ∧ u.getD (q + 6) 0 = 117) := fun z => h7 ⟨by omega, by rw [h.2.2 _ hm]; exact z.2⟩
      rw [if_neg h6', if_pos h7']
    rw [if_neg h7] at hT hF ⊢
    have h7t := Decidable.not_not.1 h7
    have g2 := fge (low := true) 4 0 0 (q + 7)
    have e2 : q + 7 ≤ m → escF t q = escF t q := fun _ => rfl
    by_cases h8 : (four t true (q + 7)).1 = false
    · rw [if_pos h8] at hT hF ⊢
      have hm := hF rfl
      simp only at hm
      have hm7 : q + 7 < m := by unfold four at hm; omega
      rw [e (by omega), if_neg h4, if_pos h5]
      have h6' : ¬ ¬ (q + 5 < u.length ∧ u.getD (q + 5) 0 = 92) := fun z => z ⟨by omega, by rw [← h.2.2 _ (by omega)]; exact h6t.2⟩
      have h7' : ¬ ¬ (q + 6 < u.length ∧ u.getD (q + 6) 0 = 117) := fun z => z ⟨by omega, by rw [← h.2.2 _ (by omega)]; exact h7t.2⟩
      have e3 : four u true (q + 7) = four t true (q + 7) := fourF_agr h 4 0 0 (q + 7) (fun z => by unfold four at h8; rw [h8] at z; cases z) (fun _ => hm)
      rw [if_neg h6', if_neg h7', e3, if_pos h8]
    rw [if_neg h8] at hT hF ⊢
    have hm := hT rfl
    simp only at hm
    have hb : (four t true (q + 7)).2.2 = q + 7 + 4 := four_at (t := t) (low := true) 4 0 0 (q + 7) (by simpa using h8)
    rw [e (by omega), if_neg h4, if_pos h5]
    have h6' : ¬ ¬ (q + 5 < u.length ∧ u.getD (q + 5) 0 = 92) := fun z => z ⟨by omega, by rw [← h.2.2 _ (by omega)]; exact h6t.2⟩
    have h7' : ¬ ¬ (q + 6 < u.length ∧ u.getD (q + 6) 0 = 117) := fun z => z ⟨by omega, by rw [← h.2.2 _ (by omega)]; exact h7t.2⟩
    have e3 : four u true (q + 7) = four t true (q + 7) := fourF_agr h 4 0 0 (q + 7) (fun _ => by unfold four at hb; omega) (fun z => absurd z h8)
    rw [if_neg h6', if_neg h7', e3, if_neg h8]
  · rw [if_neg h5] at hT hF ⊢
    have hm := hT rfl
    simp only at hm
    rw [e hm, if_neg h4, if_neg h5]
theorem goes_agr {t u : List UInt8} {m : Nat} (h : Agr t u m) {q j : Nat} (hq : q + j < m) : goes (t.drop q) j ↔ goes (u.drop q) j := by
  have h1 := h.1
  have h2 := h.2.1
  have g : ∀ (l : List UInt8) i, (l.drop q).getD i 0 = l.getD (q + i) 0 := fun l i => by rw [List.getD_eq_getElem?_getD, List.getElem?_drop, ← List.getD_eq_getElem?_getD]
  unfold goes
  rw [List.length_drop, List.length_drop, g, g, g, g, h.2.2 (q + 0) (by omega), h.2.2 (q + j) hq]
  constructor
  · rintro ⟨_, b, c⟩; exact ⟨by omega, b, c⟩
  · rintro ⟨_, b, c⟩; exact ⟨by omega, b, c⟩
theorem charF_agr {t u : List UInt8} {m : Nat} (h : Agr t u m) {q : Nat} (hq : q < t.length) (hT : (charF t q).1 = true → (charF t q).2.2 ≤ m) (hF : (charF t q).1 = false → (charF t q).2.2 < m) : charF u q = charF t q := by
  have h1 := h.1
  have h2 := h.2.1
  have g : ∀ (l : List UInt8), (l.drop q).getD 0 0 = l.getD q 0 := fun l => by rw [List.getD_eq_getElem?_getD, List.getElem?_drop, ← List.getD_eq_getElem?_getD, Nat.add_zero]
  have fs := fits_spec (t.drop q)
  have fl := fits_le (t.drop q)
  rw [List.length_drop] at fl
  by_cases hg : good (t.drop q)
  · have hw : wid (t.drop q) = fits (t.drop q) := if_pos hg
    have e1 : charF t q = (true, (t.drop q).take (wid (t.drop q)), q + wid (t.drop q)) := if_pos hg
    rw [e1] at hT
    have hm := hT rfl
    simp only at hm
    have hp := hg.1
    have h0 : (t.drop q).getD 0 0 = (u.drop q).getD 0 0 := by rw [g, g]; exact h.2.2 q (by omega)
    have hfu : fits (u.drop q) = fits (t.drop q) := fits_of (fun j hj => (goes_agr h (by omega)).1 (fs.1 j hj)) (fun z => by have := z.2.1; rw [← h0] at this; have := hg.2; omega)
    have hgu : good (u.drop q) := ⟨by omega, by rw [hfu, ← h0]; exact hg.2⟩
    have hwu : wid (u.drop q) = wid (t.drop q) := by rw [hw, ← hfu]; exact if_pos hgu
    rw [e1]
    unfold charF
    rw [if_pos hgu, hwu]
    congr 2
    refine List.ext_getElem? fun i => ?_
    rw [List.getElem?_take, List.getElem?_take]
    split
    · rename_i hi
      have e3 := h.2.2 (q + i) (by omega)
      rw [List.getElem?_drop, List.getElem?_drop, List.getElem?_eq_getElem (show q + i < u.length by omega), List.getElem?_eq_getElem (show q + i < t.length by omega)]
      rw [List.getD_eq_getElem?_getD, List.getD_eq_getElem?_getD, List.getElem?_eq_getElem (show q + i < u.length by omega), List.getElem?_eq_getElem (show q + i < t.length by omega)] at e3
      simp only [Option.getD_some] at e3
      rw [e3]
    · rfl
  · have e1 : charF t q = (false, [], q + fits (t.drop q)) := if_neg hg
    rw [e1] at hF
    have hm := hF rfl
    simp only at hm
    have hfu : fits (u.drop q) = fits (t.drop q) := fits_of (fun j hj => (goes_agr h (by omega)).1 (fs.1 j hj)) (fun z => fs.2 ((goes_agr h (by omega)).2 z))
    have h0 : (t.drop q).getD 0 0 = (u.drop q).getD 0 0 := by rw [g, g]; exact h.2.2 q (by omega)
    have hgu : ¬ good (u.drop q) := fun z => hg ⟨by rw [← hfu]; exact z.1, by rw [← hfu, h0]; exact z.2⟩
    rw [e1]
    unfold charF
    rw [if_neg hgu, hfu]
theorem oneF_agr {t u : List UInt8} {m : Nat} (h : Agr t u m) {q : Nat} (hq : q < m) (hT : (oneF t q).1 = true → (oneF t q).2.2 ≤ m) (hF : (oneF t q).1 = false → (oneF t q).2.2 < m) : oneF u q = oneF t q := by
  have h1 := h.1
  unfold oneF at hT hF ⊢
  rw [← h.2.2 q hq]
  by_cases hc : t.getD q 0 = 92
  · rw [if_pos hc] at hT hF ⊢
    rw [if_pos hc]
    exact escF_agr h hT hF
  · rw [if_neg hc] at hT hF ⊢
    rw [if_neg hc]
    exact charF_agr h (by omega) hT hF
theorem readF_agr : ∀ (f : Nat) {t u : List UInt8} {q : Nat} {out : List UInt8}, q ≤ t.length → t.length < f + q → Agr t u ((readF f t q out).2.2 + 1) → (readF f t q out).1 = false → ∀ g, u.length < g + q → readF g u q out = (false, [], (readF f t q out).2.2)
  | 0, t, u, q, out, hq, hf, h, hb, g, hg => by omega
  | f + 1, t, u, q, out, hq, hf, h, hb, 0, hg => by
    have h2 := h.2.1
    have := (readF_le (f + 1) (t := t) (out := out) hq).1
    omega
  | f + 1, t, u, q, out, hq, hf, h, hb, g + 1, hg => by
    have hle := (readF_le (f + 1) (t := t) (out := out) hq).1
    have hh1 := h.1
    have hh2 := h.2.1
    have hqt : q < t.length := by omega
    have hc := h.2.2 q (by omega)
    unfold readF at hb h ⊢
    rw [if_neg (show ¬ ¬ q < t.length from fun z => z hqt)] at hb h ⊢
    rw [if_neg (show ¬ ¬ q < u.length from fun z => z (by omega)), ← hc]
    by_cases a1 : (t.getD q 0).toNat < 32
    · rw [if_pos a1, if_pos a1]
    rw [if_neg a1] at hb h ⊢
    rw [if_neg a1]
    by_cases a2 : t.getD q 0 = 34
    · rw [if_pos a2] at hb h ⊢
      rw [if_pos a2]
      by_cases a3 : q + 1 < t.length
      · rw [if_pos a3] at h ⊢
        have := h.2.1
        simp only at this
        rw [if_pos (by omega)]
      · rw [if_neg a3] at hb; cases hb
    rw [if_neg a2] at hb h ⊢
    rw [if_neg a2]
    by_cases a4 : (oneF t q).1 = true
    · rw [if_pos a4] at hb h ⊢
      have hs := oneF_good hqt a4
      have hl2 := readF_le f (t := t) (q := (oneF t q).2.2) (out := out ++ (oneF t q).2.1) hs.2.1
      have e := oneF_agr h (q := q) (by omega) (fun _ => by omega) (fun z => by rw [a4] at z; cases z)
      rw [e, if_pos a4]
      exact readF_agr f hs.2.1 (by omega) h hb g (by omega)
    · rw [if_neg a4] at hb h ⊢
      have hs := oneF_le hqt
      have e := oneF_agr h (q := q) (by simp only; omega) (fun z => absurd z a4) (fun _ => by simp only; omega)
      rw [e, if_neg a4]
theorem unqF_agr {t b : List UInt8} (h : (unqF t).1 = false) (hp : (unqF t).2.2 < t.length) : unqF (t.take ((unqF t).2.2 + 1) ++ b) = (false, [], (unqF t).2.2) := by
  have hA := agr_take (t := t) (b := b) (m := (unqF t).2.2 + 1) (by omega)
  obtain ⟨u, hu⟩ : ∃ u, u = t.take ((unqF t).2.2 + 1) ++ b := ⟨_, rfl⟩
  rw [← hu] at hA ⊢
  have h2 := hA.2.1
  unfold unqF at h hp hA h2 ⊢
  have h0 := hA.2.2 0 (by omega)
  by_cases h1 : 0 < t.length ∧ t.getD 0 0 = 34
  · rw [if_pos h1] at h hp hA h2 ⊢
    rw [if_pos ⟨by omega, by rw [← h0]; exact h1.2⟩]
    exact readF_agr _ (by omega) (by omega) hA h _ (by omega)
  · rw [if_neg h1] at h hp hA h2 ⊢
    rw [if_neg fun z => h1 ⟨by omega, by rw [h0]; exact z.2⟩]
theorem unqF_le (t : List UInt8) : (unqF t).2.2 ≤ t.length := by
  unfold unqF
  split
  · rename_i h; exact (readF_le _ (by omega)).2
  · exact Nat.zero_le _
end Go.Wk.YtpnhfkmgnkdleaaDoor
