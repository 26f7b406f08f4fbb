/-
  Plain facts: characters of a text: how many bytes fit, how wide, the clean form.
-/
import Derived.Test.YtpnhfkmgnkdleaaDoorStr
import Derived.Lib.DecodeNEq
set_option linter.unusedVariables false
namespace Go.Wk.YtpnhfkmgnkdleaaDoor
open Go Go.Wk Go.Lib

/-- how many bytes a character has that begins with this byte; 0: none begins so -/
def siz (b : UInt8) : Nat := if b.toNat < 128 then 1 else if 194 ≤ b.toNat ∧ b.toNat ≤ 223 then 2 else if 224 ≤ b.toNat ∧ b.toNat ≤ 239 then 3 else if 240 ≤ b.toNat ∧ b.toNat ≤ 244 then 4 else 0
def latLo (f : UInt8) (p : Nat) : Nat := if p = 1 then (if f.toNat = 224 then 160 else if f.toNat = 240 then 144 else 128) else 128
def latHi (f : UInt8) (p : Nat) : Nat := if p = 1 then (if f.toNat = 237 then 159 else if f.toNat = 244 then 143 else 191) else 191
/-- whether this byte may stand at that place behind that first byte -/
def lat (f : UInt8) (p : Nat) (c : UInt8) : Prop := latLo f p ≤ c.toNat ∧ c.toNat ≤ latHi f p
instance (f : UInt8) (p : Nat) (c : UInt8) : Decidable (lat f p c) := by unfold lat; infer_instance
/-- whether byte n goes on -/
def goes (l : List UInt8) (n : Nat) : Prop := n < l.length ∧ n < siz (l.getD 0 0) ∧ (n = 0 ∨ lat (l.getD 0 0) n (l.getD n 0))
instance (l : List UInt8) (n : Nat) : Decidable (goes l n) := by unfold goes; infer_instance
def fits (l : List UInt8) : Nat := if ¬ goes l 0 then 0 else if ¬ goes l 1 then 1 else if ¬ goes l 2 then 2 else if ¬ goes l 3 then 3 else 4
theorem siz_le (b : UInt8) : siz b ≤ 4 := by unfold siz; (repeat' split) <;> omega
theorem fits_of {l : List UInt8} {n : Nat} (h : ∀ j, j < n → goes l j) (hn : ¬ goes l n) : fits l = n := by
  have h4 : n ≤ 4 := by
    by_cases h4 : n ≤ 4
    · exact h4
    · have := (h 4 (by omega)).2.1
      have := siz_le (l.getD 0 0)
      omega
  unfold fits
  rcases (show n = 0 ∨ n = 1 ∨ n = 2 ∨ n = 3 ∨ n = 4 by omega) with rfl | rfl | rfl | rfl | rfl
  · rw [if_pos hn]
  · rw [if_neg (by simpa using h 0 (by omega)), if_pos hn]
  · rw [if_neg (by simpa using h 0 (by omega)), if_neg (by simpa using h 1 (by omega)), if_pos hn]
  · rw [if_neg (by simpa using h 0 (by omega)), if_neg (by simpa using h 1 (by omega)), if_neg (by simpa using h 2 (by omega)), if_pos hn]
  · rw [if_neg (by simpa using h 0 (by omega)), if_neg (by simpa using h 1 (by omega)), if_neg (by simpa using h 2 (by omega)), if_neg (by simpa using h 3 (by omega))]
theorem fits_spec (l : List UInt8) : (∀ j, j < fits l → goes l j) ∧ ¬ goes l (fits l) := by
  unfold fits
  have h4 : ¬ goes l 4 := fun h => by have := h.2.1; have := siz_le (l.getD 0 0); omega
  by_cases g0 : goes l 0
  · rw [if_neg (by simpa using g0)]
    by_cases g1 : goes l 1
    · rw [if_neg (by simpa using g1)]
      by_cases g2 : goes l 2
      · rw [if_neg (by simpa using g2)]
        by_cases g3 : goes l 3
        · rw [if_neg (by simpa using g3)]
          exact ⟨fun j hj => by rcases (show j = 0 ∨ j = 1 ∨ j = 2 ∨ j = 3 by omega) with rfl | rfl | rfl | rfl <;> assumption, h4⟩
        · rw [if_pos g3]; exact ⟨fun j hj => by rcases (show j = 0 ∨ j = 1 ∨ j = 2 by omega) with rfl | rfl | rfl <;> assumption, g3⟩
      · rw [if_pos g2]; exact ⟨fun j hj => by rcases (show j = 0 ∨ j = 1 by omega) with rfl | rfl <;> assumption, g2⟩
    · rw [if_pos g1]; exact ⟨fun j hj => by rcases (show j = 0 by omega) with rfl; assumption, g1⟩
  · rw [if_pos g0]; exact ⟨fun j hj => by omega, g0⟩
theorem fits_le (l : List UInt8) : fits l ≤ l.length ∧ fits l ≤ siz (l.getD 0 0) := by
  have h := (fits_spec l).1
  by_cases h0 : fits l = 0
  · omega
  · have := h (fits l - 1) (by omega)
    have h1 := this.1; have h2 := this.2.1
    omega
/-- a whole character stands at the front -/
def good (l : List UInt8) : Prop := 0 < fits l ∧ fits l = siz (l.getD 0 0)
instance (l : List UInt8) : Decidable (good l) := by unfold good; infer_instance
def wid (l : List UInt8) : Nat := if good l then fits l else 1
theorem wid_pos (l : List UInt8) : 1 ≤ wid l := by
  unfold wid
  split
  · rename_i h; exact h.1
  · exact Nat.le_refl _
theorem wid_le {l : List UInt8} (h : 0 < l.length) : wid l ≤ l.length := by
  unfold wid
  split
  · exact (fits_le l).1
  · omega

theorem get_drop (s : List UInt8) (i k : Nat) : (sOf s).get! (i + k) = (s.drop i).getD k 0 := by
  simp only [ByteArray.get!, List.getD_eq_getElem?_getD, List.getElem?_drop]
  show (⟨s⟩ : Array UInt8)[i + k]! = _
  by_cases h : i + k < s.length
  · simp [h]
  · simp [h]; rfl
theorem dcd_eq {s : List UInt8} {i : Nat} (l : List UInt8) (hl : l = s.drop i) : dcd s i = decodeN l.length (l.getD 0 0).toNat (l.getD 1 0).toNat (l.getD 2 0).toNat (l.getD 3 0).toNat := by
  subst hl
  unfold dcd
  have h0 := get_drop s i 0
  rw [Nat.add_zero] at h0
  rw [decode_at, get_drop, get_drop, get_drop, h0]
  congr 1
  rw [List.length_drop]; rfl
/-- what the slow way finds: whole, or one byte that is none -/
theorem slow_wid {l : List UInt8} (hl : 0 < l.length) {sz lo hi : Nat} (hsz : siz (l.getD 0 0) = sz) (h2 : 2 ≤ sz) (hlo : latLo (l.getD 0 0) 1 = lo) (hhi : latHi (l.getD 0 0) 1 = hi) :
    (slowN l.length (l.getD 0 0).toNat (l.getD 1 0).toNat (l.getD 2 0).toNat (l.getD 3 0).toNat sz lo hi).2 = wid l ∧
      (¬ good l → (slowN l.length (l.getD 0 0).toNat (l.getD 1 0).toNat (l.getD 2 0).toNat (l.getD 3 0).toNat sz lo hi).1 = 65533) ∧ (good l → wid l = sz) := by
  have h4 := siz_le (l.getD 0 0)
  have g0 : goes l 0 := ⟨hl, by omega, .inl rfl⟩
  have l2 : ∀ c, lat (l.getD 0 0) 2 c ↔ (128 ≤ c.toNat ∧ c.toNat ≤ 191) := fun c => Iff.rfl
  have l3 : ∀ c, lat (l.getD 0 0) 3 c ↔ (128 ≤ c.toNat ∧ c.toNat ≤ 191) := fun c => Iff.rfl
  have l1 : ∀ c, lat (l.getD 0 0) 1 c ↔ (lo ≤ c.toNat ∧ c.toNat ≤ hi) := fun c => by unfold lat; rw [hlo, hhi]
  have g1 : goes l 1 ↔ (1 < l.length ∧ 1 < sz ∧ lo ≤ (l.getD 1 0).toNat ∧ (l.getD 1 0).toNat ≤ hi) := by unfold goes; rw [hsz, l1]; simp
  have g2 : goes l 2 ↔ (2 < l.length ∧ 2 < sz ∧ 128 ≤ (l.getD 2 0).toNat ∧ (l.getD 2 0).toNat ≤ 191) := by unfold goes; rw [hsz, l2]; simp
  have g3 : goes l 3 ↔ (3 < l.length ∧ 3 < sz ∧ 128 ≤ (l.getD 3 0).toNat ∧ (l.getD 3 0).toNat ≤ 191) := by unfold goes; rw [hsz, l3]; simp
  have gd : good l ↔ fits l = sz := by unfold good; rw [hsz]; constructor <;> intro h <;> omega
  have hf : fits l = if ¬ goes l 1 then 1 else if ¬ goes l 2 then 2 else if ¬ goes l 3 then 3 else 4 := by unfold fits; rw [if_neg (by simpa using g0)]
  have hw : wid l = if fits l = sz then fits l else 1 := by
    unfold wid
    by_cases h : good l
    · rw [if_pos h, if_pos (gd.1 h)]
    · rw [if_neg h, if_neg (fun e => h (gd.2 e))]
  rw [hw, gd, hf]
  simp only [g1, g2, g3]
  generalize (l.getD 1 0).toNat = b1 at *
  generalize (l.getD 2 0).toNat = b2 at *
  generalize (l.getD 3 0).toNat = b3 at *
  generalize (l.getD 0 0).toNat = b0 at *
  generalize l.length = n at *
  clear hw gd hf g0 g1 g2 g3 l1 l2 l3 hlo hhi
  unfold slowN
  rcases (show sz = 2 ∨ sz = 3 ∨ sz = 4 by omega) with rfl | rfl | rfl
  all_goals
    refine ⟨?_, ?_, ?_⟩
    all_goals (repeat' split) <;> first | rfl | omega | (intro h; first | rfl | omega | (exfalso; omega))

theorem first_siz {b : UInt8} (h : 194 ≤ b.toNat ∧ b.toNat ≤ 244) : firstT b.toNat < 240 ∧ siz b = firstT b.toNat % 8 ∧ 2 ≤ siz b ∧ latLo b 1 = accLo (firstT b.toNat / 16) ∧ latHi b 1 = accHi (firstT b.toNat / 16) := by
  have go : ∀ (f z lo hi : Nat), firstT b.toNat = f → siz b = z → latLo b 1 = lo → latHi b 1 = hi → f < 240 → z = f % 8 → 2 ≤ z → lo = accLo (f / 16) → hi = accHi (f / 16) → firstT b.toNat < 240 ∧ siz b = firstT b.toNat % 8 ∧ 2 ≤ siz b ∧ latLo b 1 = accLo (firstT b.toNat / 16) ∧ latHi b 1 = accHi (firstT b.toNat / 16) := by
    intro f z lo hi h1 h2 h3 h4 h5 h6 h7 h8 h9
    rw [h1, h2, h3, h4]; exact ⟨h5, h6, h7, h8, h9⟩
  have lo : ∀ v : Nat, (b.toNat = 224 → v = 160) → (b.toNat = 240 → v = 144) → (b.toNat ≠ 224 → b.toNat ≠ 240 → v = 128) → latLo b 1 = v := by
    intro v h1 h2 h3
    unfold latLo
    rw [if_pos rfl]
    split
    · rename_i e; exact (h1 e).symm
    · split
      · rename_i e; exact (h2 e).symm
      · rename_i e1 e2; exact (h3 e1 e2).symm
  have hi : ∀ v : Nat, (b.toNat = 237 → v = 159) → (b.toNat = 244 → v = 143) → (b.toNat ≠ 237 → b.toNat ≠ 244 → v = 191) → latHi b 1 = v := by
    intro v h1 h2 h3
    unfold latHi
    rw [if_pos rfl]
    split
    · rename_i e; exact (h1 e).symm
    · split
      · rename_i e; exact (h2 e).symm
      · rename_i e1 e2; exact (h3 e1 e2).symm
  have sz : ∀ v : Nat, (b.toNat ≤ 223 → v = 2) → (224 ≤ b.toNat → b.toNat ≤ 239 → v = 3) → (240 ≤ b.toNat → v = 4) → siz b = v := by
    intro v h1 h2 h3
    unfold siz
    rw [if_neg (by omega)]
    split
    · exact (h1 (by omega)).symm
    · split
      · exact (h2 (by omega) (by omega)).symm
      · rw [if_pos (by omega)]; exact (h3 (by omega)).symm
  rcases (show b.toNat ≤ 223 ∨ b.toNat = 224 ∨ ((225 ≤ b.toNat ∧ b.toNat < 237) ∨ (238 ≤ b.toNat ∧ b.toNat < 240)) ∨ b.toNat = 237 ∨ b.toNat = 240 ∨ (241 ≤ b.toNat ∧ b.toNat < 244) ∨ b.toNat = 244 by omega) with k | k | k | k | k | k | k
  · exact go 2 2 128 191 (firstT_C2 (by omega)) (sz _ (by omega) (by omega) (by omega)) (lo _ (by omega) (by omega) (by omega)) (hi _ (by omega) (by omega) (by omega)) (by decide) (by decide) (by decide) (by decide) (by decide)
  · exact go 19 3 160 191 (firstT_E0 k) (sz _ (by omega) (by omega) (by omega)) (lo _ (by omega) (by omega) (by omega)) (hi _ (by omega) (by omega) (by omega)) (by decide) (by decide) (by decide) (by decide) (by decide)
  · exact go 3 3 128 191 (firstT_E1 k) (sz _ (by omega) (by omega) (by omega)) (lo _ (by omega) (by omega) (by omega)) (hi _ (by omega) (by omega) (by omega)) (by decide) (by decide) (by decide) (by decide) (by decide)
  · exact go 35 3 128 159 (firstT_ED k) (sz _ (by omega) (by omega) (by omega)) (lo _ (by omega) (by omega) (by omega)) (hi _ (by omega) (by omega) (by omega)) (by decide) (by decide) (by decide) (by decide) (by decide)
  · exact go 52 4 144 191 (firstT_F0 k) (sz _ (by omega) (by omega) (by omega)) (lo _ (by omega) (by omega) (by omega)) (hi _ (by omega) (by omega) (by omega)) (by decide) (by decide) (by decide) (by decide) (by decide)
  · exact go 4 4 128 191 (firstT_F1 k) (sz _ (by omega) (by omega) (by omega)) (lo _ (by omega) (by omega) (by omega)) (hi _ (by omega) (by omega) (by omega)) (by decide) (by decide) (by decide) (by decide) (by decide)
  · exact go 68 4 128 143 (firstT_F4 k) (sz _ (by omega) (by omega) (by omega)) (lo _ (by omega) (by omega) (by omega)) (hi _ (by omega) (by omega) (by omega)) (by decide) (by decide) (by decide) (by decide) (by decide)
theorem bad_siz {b : UInt8} (h : 128 ≤ b.toNat) (h2 : ¬ (194 ≤ b.toNat ∧ b.toNat ≤ 244)) : siz b = 0 ∧ firstT b.toNat = 241 := by
  have := b.toNat_lt
  unfold siz firstT
  refine ⟨?_, ?_⟩ <;> (repeat' split) <;> first | (exfalso; omega) | rfl
theorem asc_siz {b : UInt8} (h : b.toNat < 128) : siz b = 1 ∧ firstT b.toNat = 240 := by
  unfold siz firstT; rw [if_pos h, if_pos h]; exact ⟨rfl, rfl⟩
/-- decoding: how wide; the replacement at one byte just where no character stands -/
theorem dcd_spec {s : List UInt8} {i : Nat} (l : List UInt8) (hl : l = s.drop i) (h0 : 0 < l.length) :
    (dcd s i).2 = wid l ∧ (¬ good l → (dcd s i).1 = 65533 ∧ wid l = 1) ∧ (good l → wid l = 1 → (dcd s i).1 = (l.getD 0 0).toNat ∧ (l.getD 0 0).toNat < 128) := by
  rw [dcd_eq l hl]
  by_cases ha : (l.getD 0 0).toNat < 128
  · obtain ⟨h1, h2⟩ := asc_siz ha
    have g0 : goes l 0 := ⟨h0, by omega, .inl rfl⟩
    have g1 : ¬ goes l 1 := fun h => by have := h.2.1; omega
    have hf : fits l = 1 := fits_of (fun j hj => by rcases (show j = 0 by omega) with rfl; exact g0) g1
    have hg : good l := ⟨by omega, by omega⟩
    have hw : wid l = 1 := by unfold wid; rw [if_pos hg, hf]
    rw [ascii_eq _ _ _ _ _ h2]
    exact ⟨hw.symm, fun h => absurd hg h, fun _ _ => ⟨rfl, ha⟩⟩
  · by_cases hb : 194 ≤ (l.getD 0 0).toNat ∧ (l.getD 0 0).toNat ≤ 244
    · obtain ⟨k1, k2, k3, k4, k5⟩ := first_siz hb
      have b1 := (l.getD 1 0).toNat_lt; have b2 := (l.getD 2 0).toNat_lt; have b3 := (l.getD 3 0).toNat_lt
      rw [← slow_eq _ _ _ _ _ h0 b1 b2 b3 k1]
      obtain ⟨s1, s2, s3⟩ := slow_wid h0 k2 (by omega) k4 k5
      refine ⟨s1, fun h => ⟨s2 h, by unfold wid; rw [if_neg h]⟩, fun h hw => ?_⟩
      have := s3 h; omega
    · obtain ⟨h1, h2⟩ := bad_siz (by omega) hb
      have g0 : ¬ goes l 0 := fun h => by have := h.2.1; omega
      have hf : fits l = 0 := fits_of (fun j hj => by omega) g0
      have hg : ¬ good l := fun h => by have := h.1; omega
      have hw : wid l = 1 := by unfold wid; rw [if_neg hg]
      rw [bad_eq _ _ _ _ _ (l.getD 0 0).toNat_lt h2]
      exact ⟨hw.symm, fun _ => ⟨rfl, hw⟩, fun h => absurd h hg⟩

/-- the replacement's bytes -/
def repl : List UInt8 := [239, 191, 189]
/-- a text's clean form -/
def clean (l : List UInt8) : List UInt8 := if h : l = [] then [] else if good l then l.take (wid l) ++ clean (l.drop (wid l)) else repl ++ clean (l.drop 1)
termination_by l.length
decreasing_by
  all_goals
    have := List.length_pos_iff.2 h
    have := wid_pos l
    rw [List.length_drop]; omega
theorem clean_nil : clean [] = [] := by rw [clean, dif_pos rfl]
theorem clean_cons {l : List UInt8} (h : 0 < l.length) : clean l = (if good l then l.take (wid l) else repl) ++ clean (l.drop (wid l)) := by
  rw [clean, dif_neg (List.length_pos_iff.1 h)]
  by_cases hg : good l
  · rw [if_pos hg, if_pos hg]
  · have hw : wid l = 1 := by unfold wid; rw [if_neg hg]
    rw [if_neg hg, if_neg hg, hw]
theorem clean_len (l : List UInt8) : (clean l).length ≤ 3 * l.length := by
  have key : ∀ (n : Nat) (l : List UInt8), l.length ≤ n → (clean l).length ≤ 3 * l.length := by
    intro n
    induction n with
    | zero => intro l h; rw [show l = [] from List.eq_nil_of_length_eq_zero (by omega), clean_nil]; simp
    | succ n ih =>
      intro l h
      by_cases h0 : l = []
      · subst h0; rw [clean_nil]; simp
      · have hp := List.length_pos_iff.2 h0
        have hw := wid_pos l
        have hwl := wid_le hp
        rw [clean_cons hp]
        have := ih (l.drop (wid l)) (by rw [List.length_drop]; omega)
        rw [List.length_drop] at this
        have h3 : (if good l then l.take (wid l) else repl).length ≤ 3 * wid l := by
          split
          · simp; omega
          · simp [repl]; omega
        rw [List.length_append]; omega
  exact key _ l (Nat.le_refl _)
end Go.Wk.YtpnhfkmgnkdleaaDoor
