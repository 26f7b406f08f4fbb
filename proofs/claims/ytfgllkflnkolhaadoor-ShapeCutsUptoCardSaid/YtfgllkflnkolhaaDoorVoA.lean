/-
  Chapter 13: vocabularies: what memory holds for them; which are right.
-/
import Derived.Test.YtfgllkflnkolhaaDoorVoM
import Derived.Test.YtfgllkflnkolhaaDoorFst
import Derived.Test.YtfgllkflnkolhaaDoorCopy
import Derived.Test.YtfgllkflnkolhaaDoorMevs
set_option linter.unusedVariables false
namespace Go.Wk.YtfgllkflnkolhaaDoor
open Go Go.Wk Go.Proofs

theorem mixed : Tryd.prog.follows .mixedOrders = true := by kernel_rfl
abbrev sv (t : List UInt8) : Value := .string (sOf t)
abbrev i64 (n : Int) : Value := .int .i64 n
theorem strs_at {w : World} {A : Option Addr} {l : List (List UInt8)} (h : Cs w A (l.map sv)) {j : Nat} (hj : j < l.length) : ∃ g o, A = some ⟨g, o, none⟩ ∧ w.cell? ⟨g, o + (j : Int).toNat * 1, none⟩ = some (sv (l.getD j [])) := by
  obtain ⟨g, o, rfl, hc⟩ := h j _ (show (l.map sv)[j]? = some (sv (l.getD j [])) by simp [hj])
  exact ⟨g, o, rfl, by simpa using hc⟩
theorem getD_mem' {l : List (List UInt8)} {j : Nat} (hj : j < l.length) : l.getD j [] ∈ l := by
  rw [List.getD_eq_getElem?_getD, List.getElem?_eq_getElem hj]; simp
theorem ints_at {w : World} {A : Option Addr} {l : List Int} (h : Cs w A (l.map i64)) {j : Nat} (hj : j < l.length) : ∃ g o, A = some ⟨g, o, none⟩ ∧ w.cell? ⟨g, o + (j : Int).toNat * 1, none⟩ = some (i64 (l.getD j 0)) := by
  obtain ⟨g, o, rfl, hc⟩ := h j _ (show (l.map i64)[j]? = some (i64 (l.getD j 0)) by simp [hj])
  exact ⟨g, o, rfl, by simpa using hc⟩

/-- a vocabulary -/
structure VV where
  texts : List (List UInt8)
  merges : List (Int × Int × Int)
abbrev Mrg := Int × Int × Int
def mrg1 (m : Mrg) : List Value := [i64 m.1, i64 m.2.1, i64 m.2.2]
def mcs (l : List Mrg) : List Value := l.flatMap mrg1
theorem mcs_len : ∀ l : List Mrg, (mcs l).length = l.length * 3
  | [] => rfl
  | m :: l => by
    have := mcs_len l
    unfold mcs at this ⊢
    rw [List.flatMap_cons, List.length_append, this]
    simp [mrg1]; omega
def VV.m (v : VV) (j : Nat) : Mrg := v.merges.getD j (0, 0, 0)
def VV.t (v : VV) (i : Nat) : List UInt8 := v.texts.getD i []
theorem mcs_at : ∀ (l : List Mrg) (i : Nat) (k : Nat) (u : Value), i < l.length → (mrg1 (l.getD i (0, 0, 0)))[k]? = some u → (mcs l)[i * 3 + k]? = some u
  | [], i, k, u, hi, h => by simp at hi
  | m :: l, 0, k, u, hi, h => by
    have hk : k < 3 := by simpa [mrg1] using (List.getElem?_eq_some_iff.1 h).1
    unfold mcs
    rw [List.flatMap_cons, Nat.zero_mul, Nat.zero_add, List.getElem?_append_left (by simpa [mrg1] using hk)]
    simpa using h
  | m :: l, i + 1, k, u, hi, h => by
    have ih := mcs_at l i k u (by simpa using hi) (by simpa using h)
    unfold mcs at ih ⊢
    rw [List.flatMap_cons, List.getElem?_append_right (by simp [mrg1]; omega)]
    rw [show (i + 1) * 3 + k - (mrg1 m).length = i * 3 + k by simp [mrg1]; omega]
    exact ih
/-- a row of merges at a place -/
theorem mrgs_at {w : World} {A : Option Addr} {l : List Mrg} (h : Cs w A (mcs l)) {j : Nat} (hj : j < l.length) :
    ∃ g o, A = some ⟨g, o, none⟩ ∧ Cs w (some ⟨g, o + (j : Int).toNat * 3, none⟩) (mrg1 (l.getD j (0, 0, 0))) := by
  obtain ⟨g, o, rfl, _⟩ := h (j * 3) _ (mcs_at l j 0 _ hj rfl)
  exact ⟨g, o, rfl, by rw [Int.toNat_natCast]; exact h.part (j * 3) fun k u hk => mcs_at l j k u hj hk⟩
theorem mrg_cells {w : World} {g o : Nat} {m : Mrg} (h : Cs w (some ⟨g, o, none⟩) (mrg1 m)) : w.cell? ⟨g, o, none⟩ = some (i64 m.1) ∧ w.cell? ⟨g, o + 1, none⟩ = some (i64 m.2.1) ∧ w.cell? ⟨g, o + 2, none⟩ = some (i64 m.2.2) :=
  ⟨h.at (j := 0) rfl, h.at (j := 1) rfl, h.at (j := 2) rfl⟩

abbrev vv (A : Option Addr) (c : Nat) (B : Option Addr) (d : Nat) (v : VV) : Value := .agg ⟨[.slice A v.texts.length c, .slice B v.merges.length d]⟩
/-- where a vocabulary's rows stand -/
def Vo (w : World) (A B : Option Addr) (v : VV) : Prop := Cs w A (v.texts.map sv) ∧ Cs w B (mcs v.merges)
theorem Vo.fr {S : Nat → Prop} {w w' : World} {A B : Option Addr} {v : VV} (h : Vo w A B v) (hf : Fr S w w') (h1 : ∀ a, A = some a → ¬ S a.block) (h2 : ∀ a, B = some a → ¬ S a.block) : Vo w' A B v := ⟨h.1.fr hf h1, h.2.fr hf h2⟩
theorem Vo.fr0 {w w' : World} {A B : Option Addr} {v : VV} (h : Vo w A B v) (hf : Fr no w w') : Vo w' A B v := ⟨h.1.fr0 hf, h.2.fr0 hf⟩
/-- small enough -/
structure VS (v : VV) : Prop where
  texts : v.texts.length ≤ 5000000
  each : ∀ t ∈ v.texts, t.length ≤ 5000000
  merges : v.merges.length ≤ 5000000
theorem VS.len {v : VV} (h : VS v) (i : Nat) : (v.t i).length ≤ 5000000 := by
  by_cases hi : i < v.texts.length
  · exact h.each _ (getD_mem' hi)
  · have : v.t i = [] := by unfold VV.t; rw [List.getD_eq_getElem?_getD, List.getElem?_eq_none (by omega)]; rfl
    rw [this]; simp

def VV.tok (v : VV) (i : Int) : Prop := 0 < i ∧ i < v.texts.length
instance (v : VV) (i : Int) : Decidable (v.tok i) := by unfold VV.tok; infer_instance
def VV.okT (v : VV) (i : Nat) : Prop := (∀ k, k < i → v.t k ≠ v.t i) ∧ (v.t i = [] ↔ i = 0) ∧ (v.t i).length ≤ 64
instance (v : VV) (i : Nat) : Decidable (v.okT i) := by unfold VV.okT; infer_instance
def VV.okM (v : VV) (j : Nat) : Prop := v.tok (v.m j).1 ∧ v.tok (v.m j).2.1 ∧ v.tok (v.m j).2.2 ∧ v.t (v.m j).2.2.toNat = v.t (v.m j).1.toNat ++ v.t (v.m j).2.1.toNat ∧ ∀ k, k < j → ((v.m k).1, (v.m k).2.1) ≠ ((v.m j).1, (v.m j).2.1)
instance (v : VV) (j : Nat) : Decidable (v.okM j) := by unfold VV.okM; infer_instance
/-- the first text, the first merge that is not right -/
def VV.fT (v : VV) : Nat := fstP (fun i => ¬ v.okT i) 0 v.texts.length
def VV.fM (v : VV) : Nat := fstP (fun i => ¬ v.okM i) 0 v.merges.length
/-- what is wrong, and where -/
def VV.chk (v : VV) : Nat × Nat :=
  if 512 < v.texts.length then (512, 130) else if v.fT < v.texts.length then (v.fT, 130) else if v.texts.length < 2 then (v.texts.length, 130)
  else if 1024 < v.merges.length then (1024, 131) else if v.fM < v.merges.length then (v.fM, 131) else (0, 0)
abbrev chkR (v : VV) : Value := .tuple #[i64 v.chk.1, i64 v.chk.2]
theorem chk_1 {v : VV} (h : 512 < v.texts.length) : v.chk = (512, 130) := by unfold VV.chk; rw [if_pos h]
theorem chk_2 {v : VV} (h : ¬ 512 < v.texts.length) {i : Nat} (hi : i < v.texts.length) (h1 : ∀ k, k < i → v.okT k) (h2 : ¬ v.okT i) : v.chk = (i, 130) := by
  have : v.fT = i := fstP_at hi (fun j hj => Decidable.not_not.2 (h1 j hj)) h2
  unfold VV.chk; rw [if_neg h, this, if_pos hi]
theorem fT_all {v : VV} (h1 : ∀ k, k < v.texts.length → v.okT k) : v.fT = v.texts.length := fstP_no fun j hj => Decidable.not_not.2 (h1 j hj)
theorem chk_3 {v : VV} (h : ¬ 512 < v.texts.length) (h1 : ∀ k, k < v.texts.length → v.okT k) (h2 : v.texts.length < 2) : v.chk = (v.texts.length, 130) := by
  unfold VV.chk; rw [if_neg h, fT_all h1, if_neg (by omega), if_pos h2]
theorem chk_4 {v : VV} (h : ¬ 512 < v.texts.length) (h1 : ∀ k, k < v.texts.length → v.okT k) (h2 : ¬ v.texts.length < 2) (h3 : 1024 < v.merges.length) : v.chk = (1024, 131) := by
  unfold VV.chk; rw [if_neg h, fT_all h1, if_neg (by omega), if_neg h2, if_pos h3]
theorem chk_5 {v : VV} (h : ¬ 512 < v.texts.length) (h1 : ∀ k, k < v.texts.length → v.okT k) (h2 : ¬ v.texts.length < 2) (h3 : ¬ 1024 < v.merges.length) {j : Nat} (hj : j < v.merges.length) (h4 : ∀ k, k < j → v.okM k) (h5 : ¬ v.okM j) : v.chk = (j, 131) := by
  have : v.fM = j := fstP_at hj (fun i hi => Decidable.not_not.2 (h4 i hi)) h5
  unfold VV.chk; rw [if_neg h, fT_all h1, if_neg (by omega), if_neg h2, if_neg h3, this, if_pos hj]
theorem chk_6 {v : VV} (h : ¬ 512 < v.texts.length) (h1 : ∀ k, k < v.texts.length → v.okT k) (h2 : ¬ v.texts.length < 2) (h3 : ¬ 1024 < v.merges.length) (h4 : ∀ k, k < v.merges.length → v.okM k) : v.chk = (0, 0) := by
  have : v.fM = v.merges.length := fstP_no fun i hi => Decidable.not_not.2 (h4 i hi)
  unfold VV.chk; rw [if_neg h, fT_all h1, if_neg (by omega), if_neg h2, if_neg h3, this, if_neg (by omega)]
/-- what holds of one that is right -/
structure VV.ok (v : VV) : Prop where
  few : v.texts.length ≤ 512
  two : 2 ≤ v.texts.length
  fewM : v.merges.length ≤ 1024
  texts : ∀ k, k < v.texts.length → v.okT k
  merges : ∀ k, k < v.merges.length → v.okM k
theorem chk_ok {v : VV} (h : v.chk.2 = 0) : v.ok := by
  unfold VV.chk at h
  split at h
  · cases h
  split at h
  · cases h
  split at h
  · cases h
  split at h
  · cases h
  split at h
  · cases h
  rename_i h1 h2 h3 h4 h5
  have f1 := fstP_spec (fun i => ¬ v.okT i) v.texts.length 0
  have f2 := fstP_spec (fun i => ¬ v.okM i) v.merges.length 0
  exact ⟨by omega, by omega, by omega, fun k hk => Decidable.not_not.1 (f1.2.2.1 k (Nat.zero_le _) (by unfold VV.fT at h2; omega)), fun k hk => Decidable.not_not.1 (f2.2.2.1 k (Nat.zero_le _) (by unfold VV.fM at h5; omega))⟩
theorem ok_chk {v : VV} (h : v.ok) : v.chk = (0, 0) := chk_6 (by have := h.few; omega) h.texts (by have := h.two; omega) (by have := h.fewM; omega) h.merges
theorem chk_le (v : VV) : v.chk.1 ≤ 1024 ∧ (v.chk.2 = 0 ∨ v.chk.2 = 130 ∨ v.chk.2 = 131) := by
  unfold VV.chk
  (repeat' split) <;> simp <;> omega
end Go.Wk.YtfgllkflnkolhaaDoor
