/-
  Chapter 13: a text by the longest tokens, and by the fewest; plain law.
-/
import Derived.Test.YtjdfdahdobikmaaVoW
set_option linter.unusedVariables false
namespace Go.Wk.Ytjdfdahdobikmaa
open Go Go.Wk Go.Proofs

/-- a token's text stands at a place -/
def VV.sd (v : VV) (s : List UInt8) (p k : Nat) : Prop := 0 < k ∧ v.t k <+: s.drop p
instance (v : VV) (s : List UInt8) (p k : Nat) : Decidable (v.sd s p k) := by unfold VV.sd; infer_instance
/-- the longest of the first tokens at a place -/
def VV.bst (v : VV) (s : List UInt8) (p : Nat) : Nat → Nat
  | 0 => 0
  | k + 1 => if (v.t (v.bst s p k)).length < (v.t k).length ∧ v.t k <+: s.drop p then k else v.bst s p k
def VV.lng (v : VV) (s : List UInt8) (out : List Int) (p : Nat) : List Int × Nat × Nat :=
  if h : p < s.length ∧ 0 < (v.t (v.bst s p v.texts.length)).length then v.lng s (out ++ [(v.bst s p v.texts.length : Int)]) (p + (v.t (v.bst s p v.texts.length)).length)
  else if p < s.length then ([], p, 132) else (out, 0, 0)
termination_by s.length - p
decreasing_by omega
def VV.longest (v : VV) (s : List UInt8) : List Int × Nat × Nat := if v.chk.2 ≠ 0 then ([], v.chk.1, v.chk.2) else v.lng s [] 0

/-- with how few tokens what stands behind a place can be said; one more than the text is long: it can't -/
def VV.mins (v : VV) (s : List UInt8) (f : Nat → Nat) (p : Nat) : Nat → Nat
  | 0 => s.length + 1
  | k + 1 => if v.sd s p k then min (v.mins s f p k) (f (p + (v.t k).length) + 1) else v.mins s f p k
def VV.fpF (v : VV) (s : List UInt8) : Nat → Nat → Nat
  | 0, _ => 0
  | d + 1, p => if p < s.length then v.mins s (v.fpF s d) p v.texts.length else 0
def VV.fp (v : VV) (s : List UInt8) (p : Nat) : Nat := v.fpF s s.length p
def VV.nx (v : VV) (s : List UInt8) (p : Nat) : Nat := fstP (fun k => v.sd s p k ∧ v.fp s (p + (v.t k).length) + 1 = v.fp s p) 0 v.texts.length
def VV.few (v : VV) (s : List UInt8) (out : List Int) (p : Nat) : List Int :=
  if h : p < s.length ∧ 0 < (v.t (v.nx s p)).length then v.few s (out ++ [(v.nx s p : Int)]) (p + (v.t (v.nx s p)).length) else out
termination_by s.length - p
decreasing_by omega
/-- the places that rows of tokens reach -/
inductive VV.Rch (v : VV) (s : List UInt8) : Nat → Prop
  | zero : VV.Rch v s 0
  | step {p k : Nat} : VV.Rch v s p → k < v.texts.length → v.sd s p k → VV.Rch v s (p + (v.t k).length)
/-- what Fewest gives back -/
def VV.FW (v : VV) (s : List UInt8) (r : List Int × Nat × Nat) : Prop :=
  (v.chk.2 ≠ 0 → r = ([], v.chk.1, v.chk.2)) ∧ (v.chk.2 = 0 → v.fp s 0 ≤ s.length → r = (v.few s [] 0, 0, 0)) ∧
  (v.chk.2 = 0 → ¬ v.fp s 0 ≤ s.length → r.1 = [] ∧ r.2.2 = 132 ∧ v.Rch s r.2.1 ∧ ∀ j, r.2.1 < j → ¬ v.Rch s j)

theorem FW_one {v : VV} {s : List UInt8} {a b : List Int × Nat × Nat} (ha : v.FW s a) (hb : v.FW s b) : a = b := by
  by_cases h : v.chk.2 = 0
  · by_cases h1 : v.fp s 0 ≤ s.length
    · rw [ha.2.1 h h1, hb.2.1 h h1]
    · obtain ⟨a1, a2, a3, a4⟩ := ha.2.2 h h1
      obtain ⟨b1, b2, b3, b4⟩ := hb.2.2 h h1
      obtain ⟨x, y, z⟩ := a
      obtain ⟨x', y', z'⟩ := b
      simp only at a1 a2 a3 a4 b1 b2 b3 b4
      subst a1 a2 b1 b2
      have : y = y' := by
        rcases Nat.lt_trichotomy y y' with h | h | h
        · exact absurd b3 (a4 _ h)
        · exact h
        · exact absurd a3 (b4 _ h)
      rw [this]
  · rw [ha.1 h, hb.1 h]

theorem t_pos {v : VV} (hok : v.ok) {k : Nat} (h0 : 0 < k) (hk : k < v.texts.length) : 0 < (v.t k).length := by
  have := (hok.texts k hk).2.1
  rcases Nat.eq_zero_or_pos (v.t k).length with h | h
  · have := this.1 (List.eq_nil_of_length_eq_zero h); omega
  · exact h
theorem t_zero {v : VV} (hok : v.ok) : v.t 0 = [] := (hok.texts 0 (by have := hok.two; omega)).2.1.2 rfl
theorem sd_le {v : VV} {s : List UInt8} {p k : Nat} (h : v.sd s p k) (hp : p ≤ s.length) : p + (v.t k).length ≤ s.length := by
  have := h.2.length_le
  rw [List.length_drop] at this
  omega
theorem take_sd {v : VV} {s : List UInt8} {p k : Nat} (h : v.t k <+: s.drop p) : s.take (p + (v.t k).length) = s.take p ++ v.t k := by
  rw [List.take_add]
  congr 1
  exact (List.prefix_iff_eq_take.1 h).symm
theorem sd_pos {v : VV} {s : List UInt8} {p k : Nat} (h : v.t k <+: s.drop p) (h0 : 0 < (v.t k).length) : p < s.length := by
  have := h.length_le
  rw [List.length_drop] at this
  omega

theorem bst_lt {v : VV} {s : List UInt8} {p : Nat} : ∀ k, 0 < k → v.bst s p k < k
  | 0, h => absurd h (Nat.lt_irrefl 0)
  | k + 1, _ => by
    unfold VV.bst
    split
    · omega
    · rcases Nat.eq_zero_or_pos k with h | h
      · subst h; exact Nat.zero_lt_one
      · have := bst_lt (v := v) (s := s) (p := p) k h; omega
theorem bst_sd {v : VV} {s : List UInt8} {p : Nat} : ∀ k, v.bst s p k = 0 ∨ v.t (v.bst s p k) <+: s.drop p
  | 0 => .inl rfl
  | k + 1 => by
    unfold VV.bst
    split
    · rename_i h; exact .inr h.2
    · exact bst_sd k
theorem lng_end {v : VV} {s : List UInt8} {out : List Int} {p : Nat} (h : ¬ p < s.length) : v.lng s out p = (out, 0, 0) := by
  rw [VV.lng, dif_neg (fun z => h z.1), if_neg h]
theorem lng_bad {v : VV} {s : List UInt8} (hok : v.ok) {out : List Int} {p : Nat} (h : p < s.length) (h0 : v.bst s p v.texts.length = 0) : v.lng s out p = ([], p, 132) := by
  rw [VV.lng, dif_neg (fun z => by have := z.2; rw [h0, t_zero hok] at this; exact Nat.lt_irrefl 0 this), if_pos h]
theorem bst_pos {v : VV} {s : List UInt8} (hok : v.ok) {p : Nat} (h0 : v.bst s p v.texts.length ≠ 0) : 0 < (v.t (v.bst s p v.texts.length)).length :=
  t_pos hok (by omega) (bst_lt _ (by have := hok.two; omega))
theorem lng_step {v : VV} {s : List UInt8} (hok : v.ok) {out : List Int} {p : Nat} (h : p < s.length) (h0 : v.bst s p v.texts.length ≠ 0) :
    v.lng s out p = v.lng s (out ++ [(v.bst s p v.texts.length : Int)]) (p + (v.t (v.bst s p v.texts.length)).length) := by
  rw [VV.lng, dif_pos ⟨h, bst_pos hok h0⟩]
theorem bst_le {v : VV} {s : List UInt8} {p : Nat} (hp : p < s.length) (h0 : v.bst s p v.texts.length ≠ 0) : p + (v.t (v.bst s p v.texts.length)).length ≤ s.length := by
  rcases bst_sd (v := v) (s := s) (p := p) v.texts.length with h | h
  · exact absurd h h0
  · have := h.length_le; rw [List.length_drop] at this; omega
theorem say_one (v : VV) (k : Nat) : v.say [(k : Int)] = v.t k := by
  show v.t _ ++ [] = _
  rw [List.append_nil]; rfl
theorem lng_prop {v : VV} {s : List UInt8} (hok : v.ok) : ∀ (n : Nat) (out : List Int) (p : Nat), s.length - p ≤ n → p ≤ s.length → v.say out = s.take p → (∀ t ∈ out, v.tok t) → out.length ≤ p →
    (v.lng s out p).2.2 = 0 → v.say (v.lng s out p).1 = s ∧ (∀ t ∈ (v.lng s out p).1, v.tok t) ∧ (v.lng s out p).1.length ≤ s.length := by
  intro n
  induction n with
  | zero =>
    intro out p h hp h1 h2 h3 _
    have hps : p = s.length := by omega
    rw [lng_end (by omega)]
    exact ⟨by rw [h1, hps, List.take_length], h2, by show out.length ≤ _; omega⟩
  | succ n ih =>
    intro out p h hp h1 h2 h3 h4
    by_cases hlt : p < s.length
    · by_cases h0 : v.bst s p v.texts.length = 0
      · rw [lng_bad hok hlt h0] at h4; cases h4
      · rw [lng_step hok hlt h0] at h4 ⊢
        have hb := bst_pos hok h0
        have hl := bst_lt (v := v) (s := s) (p := p) v.texts.length (by have := hok.two; omega)
        have hle := bst_le hlt h0
        rcases bst_sd (v := v) (s := s) (p := p) v.texts.length with hs | hs
        · exact absurd hs h0
        · refine ih _ _ (by omega) hle ?_ ?_ (by rw [List.length_append]; show out.length + 1 ≤ _; omega) h4
          · rw [say_append, say_one, h1, take_sd hs]
          · intro t ht
            rcases List.mem_append.1 ht with ht | ht
            · exact h2 t ht
            · rw [List.mem_singleton] at ht; subst ht; exact ⟨by omega, by omega⟩
    · have hps : p = s.length := by omega
      rw [lng_end (by omega)]
      exact ⟨by rw [h1, hps, List.take_length], h2, by show out.length ≤ _; omega⟩

theorem mins_congr {v : VV} {s : List UInt8} {f g : Nat → Nat} {p : Nat} : ∀ n, (∀ k, k < n → v.sd s p k → f (p + (v.t k).length) = g (p + (v.t k).length)) → v.mins s f p n = v.mins s g p n
  | 0, _ => rfl
  | n + 1, h => by
    have ih := mins_congr (f := f) (g := g) n fun k hk => h k (by omega)
    unfold VV.mins
    rw [ih]
    split
    · rename_i hs; rw [h n (by omega) hs]
    · rfl
theorem fpF_eq {v : VV} {s : List UInt8} (hok : v.ok) : ∀ (d d' p : Nat), s.length - p ≤ d → s.length - p ≤ d' → v.fpF s d p = v.fpF s d' p
  | 0, 0, p, _, _ => rfl
  | 0, d' + 1, p, h, _ => by show 0 = _; unfold VV.fpF; rw [if_neg (by omega)]
  | d + 1, 0, p, _, h => by show _ = 0; unfold VV.fpF; rw [if_neg (by omega)]
  | d + 1, d' + 1, p, h, h' => by
    unfold VV.fpF
    split
    · refine mins_congr _ fun k hk hs => ?_
      have := t_pos hok hs.1 hk
      exact fpF_eq hok d d' _ (by omega) (by omega)
    · rfl
theorem fp_end {v : VV} {s : List UInt8} {p : Nat} (h : ¬ p < s.length) : v.fp s p = 0 := by
  unfold VV.fp
  cases s.length with
  | zero => rfl
  | succ d => unfold VV.fpF; exact if_neg h
theorem fp_eq {v : VV} {s : List UInt8} (hok : v.ok) {p : Nat} (h : p < s.length) : v.fp s p = v.mins s (v.fp s) p v.texts.length := by
  obtain ⟨d, hd⟩ : ∃ d, s.length = d + 1 := ⟨s.length - 1, by omega⟩
  have e : v.fp s p = v.fpF s (d + 1) p := by unfold VV.fp; rw [hd]
  rw [e]
  unfold VV.fpF
  rw [if_pos h]
  refine mins_congr _ fun k hk hs => ?_
  have := t_pos hok hs.1 hk
  unfold VV.fp
  exact fpF_eq hok _ _ _ (by omega) (by omega)
theorem mins_le {v : VV} {s : List UInt8} {f : Nat → Nat} {p : Nat} : ∀ n, v.mins s f p n ≤ s.length + 1
  | 0 => Nat.le_refl _
  | n + 1 => by
    have ih := mins_le (f := f) (p := p) (v := v) (s := s) n
    unfold VV.mins
    split
    · omega
    · exact ih
theorem mins_at {v : VV} {s : List UInt8} {f : Nat → Nat} {p j : Nat} (hs : v.sd s p j) : ∀ n, j < n → v.mins s f p n ≤ f (p + (v.t j).length) + 1
  | 0, h => absurd h (Nat.not_lt_zero _)
  | n + 1, h => by
    unfold VV.mins
    by_cases e : j = n
    · subst e; rw [if_pos hs]; omega
    · have ih := mins_at (f := f) hs n (by omega)
      split
      · omega
      · exact ih
theorem mins_ex {v : VV} {s : List UInt8} {f : Nat → Nat} {p : Nat} : ∀ n, v.mins s f p n = s.length + 1 ∨ ∃ j, j < n ∧ v.sd s p j ∧ v.mins s f p n = f (p + (v.t j).length) + 1
  | 0 => .inl rfl
  | n + 1 => by
    have ih := mins_ex (f := f) (p := p) (v := v) (s := s) n
    unfold VV.mins
    by_cases hs : v.sd s p n
    · rw [if_pos hs]
      by_cases hm : v.mins s f p n ≤ f (p + (v.t n).length) + 1
      · rw [Nat.min_eq_left hm]
        rcases ih with h | ⟨j, h1, h2, h3⟩
        · exact .inl h
        · exact .inr ⟨j, by omega, h2, h3⟩
      · rw [Nat.min_eq_right (by omega)]
        exact .inr ⟨n, by omega, hs, rfl⟩
    · rw [if_neg hs]
      rcases ih with h | ⟨j, h1, h2, h3⟩
      · exact .inl h
      · exact .inr ⟨j, by omega, h2, h3⟩
theorem fp_pos {v : VV} {s : List UInt8} (hok : v.ok) {p : Nat} (h : p < s.length) : 0 < v.fp s p := by
  rw [fp_eq hok h]
  rcases mins_ex (v := v) (s := s) (f := v.fp s) (p := p) v.texts.length with h | ⟨j, _, _, h⟩ <;> omega
theorem fp_most (v : VV) (s : List UInt8) (p : Nat) : v.fp s p ≤ s.length + 1 := by
  unfold VV.fp
  cases hd : s.length with
  | zero => exact Nat.zero_le _
  | succ d =>
    unfold VV.fpF
    split
    · have := mins_le (v := v) (s := s) (f := v.fpF s d) (p := p) v.texts.length; omega
    · omega
theorem fp_lim {v : VV} {s : List UInt8} (hok : v.ok) : ∀ (n p : Nat), s.length - p ≤ n → v.fp s p ≤ s.length → v.fp s p ≤ s.length - p := by
  intro n
  induction n with
  | zero => intro p h _; rw [fp_end (by omega)]; omega
  | succ n ih =>
    intro p h hf
    by_cases hlt : p < s.length
    · rw [fp_eq hok hlt] at hf ⊢
      rcases mins_ex (v := v) (s := s) (f := v.fp s) (p := p) v.texts.length with he | ⟨j, h1, h2, he⟩
      · omega
      · rw [he] at hf ⊢
        have := t_pos hok h2.1 h1
        have := sd_le h2 (by omega)
        have := ih (p + (v.t j).length) (by omega) (by omega)
        omega
    · rw [fp_end hlt]; omega
theorem nx_spec {v : VV} {s : List UInt8} (hok : v.ok) {p : Nat} (h : p < s.length) (hf : v.fp s p ≤ s.length) : v.nx s p < v.texts.length ∧ v.sd s p (v.nx s p) ∧ v.fp s (p + (v.t (v.nx s p)).length) + 1 = v.fp s p := by
  have hsp := fstP_spec (fun k => v.sd s p k ∧ v.fp s (p + (v.t k).length) + 1 = v.fp s p) v.texts.length 0
  have hlt : v.nx s p < v.texts.length := by
    have he := fp_eq hok h
    rcases mins_ex (v := v) (s := s) (f := v.fp s) (p := p) v.texts.length with h' | ⟨j, h1, h2, h3⟩
    · omega
    · by_cases hlt : v.nx s p < v.texts.length
      · exact hlt
      · have := hsp.2.2.1 j (Nat.zero_le _) (by unfold VV.nx at hlt; omega)
        exact absurd ⟨h2, by omega⟩ this
  have := hsp.2.2.2 (by unfold VV.nx at hlt; omega)
  exact ⟨hlt, this⟩
theorem nx_is {v : VV} {s : List UInt8} {p k : Nat} (hk : k < v.texts.length) (hno : ∀ j, j < k → ¬ (v.sd s p j ∧ v.fp s (p + (v.t j).length) + 1 = v.fp s p)) (h : v.sd s p k ∧ v.fp s (p + (v.t k).length) + 1 = v.fp s p) : v.nx s p = k := fstP_at hk hno h
theorem few_end {v : VV} {s : List UInt8} {out : List Int} {p : Nat} (h : ¬ p < s.length) : v.few s out p = out := by
  rw [VV.few, dif_neg (fun z => h z.1)]
theorem few_step {v : VV} {s : List UInt8} (hok : v.ok) {out : List Int} {p : Nat} (h : p < s.length) (hf : v.fp s p ≤ s.length) : v.few s out p = v.few s (out ++ [(v.nx s p : Int)]) (p + (v.t (v.nx s p)).length) := by
  obtain ⟨h1, h2, h3⟩ := nx_spec hok h hf
  rw [VV.few, dif_pos ⟨h, t_pos hok h2.1 h1⟩]
theorem few_prop {v : VV} {s : List UInt8} (hok : v.ok) : ∀ (n : Nat) (out : List Int) (p : Nat), s.length - p ≤ n → p ≤ s.length → v.fp s p ≤ s.length → v.say out = s.take p → (∀ t ∈ out, v.tok t) →
    v.say (v.few s out p) = s ∧ (∀ t ∈ v.few s out p, v.tok t) ∧ (v.few s out p).length = out.length + v.fp s p := by
  intro n
  induction n with
  | zero =>
    intro out p h hp _ h1 h2
    rw [few_end (by omega), fp_end (by omega)]
    exact ⟨by rw [h1, show p = s.length by omega, List.take_length], h2, rfl⟩
  | succ n ih =>
    intro out p h hp hf h1 h2
    by_cases hlt : p < s.length
    · obtain ⟨g1, g2, g3⟩ := nx_spec hok hlt hf
      have hb := t_pos hok g2.1 g1
      rw [few_step hok hlt hf]
      obtain ⟨r1, r2, r3⟩ := ih (out ++ [(v.nx s p : Int)]) (p + (v.t (v.nx s p)).length) (by omega) (sd_le g2 hp) (by omega) (by rw [say_append, say_one, h1, take_sd g2.2]) (fun t ht => by
        rcases List.mem_append.1 ht with ht | ht
        · exact h2 t ht
        · rw [List.mem_singleton] at ht; subst ht; have := g2.1; exact ⟨by omega, by omega⟩)
      refine ⟨r1, r2, ?_⟩
      rw [r3, List.length_append]
      show out.length + 1 + _ = _
      omega
    · rw [few_end hlt, fp_end hlt]
      exact ⟨by rw [h1, show p = s.length by omega, List.take_length], h2, rfl⟩
theorem fp_row {v : VV} {s : List UInt8} (hok : v.ok) : ∀ (l : List Int) (p : Nat), (∀ t ∈ l, v.tok t) → v.say l = s.drop p → v.fp s p ≤ l.length
  | [], p, _, h => by
    have : ¬ p < s.length := fun hlt => by
      have h1 := congrArg List.length h
      rw [List.length_drop] at h1
      have : (v.say []).length = 0 := rfl
      omega
    rw [fp_end this]; exact Nat.zero_le _
  | t :: l, p, ht, h => by
    obtain ⟨t1, t2⟩ := ht t (List.mem_cons_self ..)
    have hs : v.say (t :: l) = v.t t.toNat ++ v.say l := rfl
    rw [hs] at h
    have hpre : v.t t.toNat <+: s.drop p := ⟨_, h⟩
    have hsd : v.sd s p t.toNat := ⟨by omega, hpre⟩
    have hb := t_pos hok (k := t.toNat) (by omega) (by omega)
    have hlt := sd_pos hpre hb
    have hd : v.say l = s.drop (p + (v.t t.toNat).length) := by
      rw [← List.drop_drop, ← h, List.drop_left]
    have ih := fp_row hok l _ (fun u hu => ht u (List.mem_cons_of_mem _ hu)) hd
    rw [fp_eq hok hlt]
    have := mins_at (f := v.fp s) hsd v.texts.length (by omega)
    rw [List.length_cons]
    omega
theorem rch_le {v : VV} {s : List UInt8} {p : Nat} (h : v.Rch s p) : p ≤ s.length := by
  induction h with
  | zero => exact Nat.zero_le _
  | step _ _ hs ih => exact sd_le hs ih
theorem rch_fp {v : VV} {s : List UInt8} (hok : v.ok) {p : Nat} (h : v.Rch s p) : v.fp s p ≤ s.length → v.fp s 0 ≤ s.length := by
  induction h with
  | zero => exact id
  | step hr hk hs ih =>
    rename_i p k
    intro hf
    have h1 := fp_lim hok _ _ (Nat.le_refl _) hf
    have hb := t_pos hok hs.1 hk
    have h2 := sd_le hs (rch_le hr)
    refine ih ?_
    rw [fp_eq hok (sd_pos hs.2 hb)]
    have := mins_at (f := v.fp s) hs v.texts.length hk
    omega
theorem fp_rch {v : VV} {s : List UInt8} (hok : v.ok) : ∀ (n p : Nat), s.length - p ≤ n → v.Rch s p → v.fp s p ≤ s.length → v.Rch s s.length := by
  intro n
  induction n with
  | zero => intro p h hr _; rw [show s.length = p by have := rch_le hr; omega]; exact hr
  | succ n ih =>
    intro p h hr hf
    by_cases hlt : p < s.length
    · obtain ⟨g1, g2, g3⟩ := nx_spec hok hlt hf
      have hb := t_pos hok g2.1 g1
      exact ih _ (by omega) (.step hr g1 g2) (by omega)
    · rw [show s.length = p by have := rch_le hr; omega]; exact hr
theorem rch_all {v : VV} {s : List UInt8} (hok : v.ok) : v.Rch s s.length ↔ v.fp s 0 ≤ s.length :=
  ⟨fun h => rch_fp hok h (by rw [fp_end (Nat.lt_irrefl _)]; exact Nat.zero_le _), fun h => fp_rch hok _ 0 (Nat.le_refl _) .zero h⟩

/-- the places that are marked when the places before q are done, and the first i tokens at q -/
def VV.mkd (v : VV) (s : List UInt8) (q i j : Nat) : Prop := j = 0 ∨ ∃ a k, (a < q ∨ (a = q ∧ k < i)) ∧ v.Rch s a ∧ k < v.texts.length ∧ v.sd s a k ∧ j = a + (v.t k).length
theorem mk_rch {v : VV} {s : List UInt8} {q i j : Nat} (h : v.mkd s q i j) : v.Rch s j := by
  rcases h with rfl | ⟨a, k, _, h1, h2, h3, rfl⟩
  · exact .zero
  · exact .step h1 h2 h3
theorem rch_mk {v : VV} {s : List UInt8} (hok : v.ok) {q i : Nat} (h : v.Rch s q) : v.mkd s q i q := by
  cases h with
  | zero => exact .inl rfl
  | step h1 h2 h3 => exact .inr ⟨_, _, .inl (by have := t_pos hok h3.1 h2; omega), h1, h2, h3, rfl⟩
theorem mk_at {v : VV} {s : List UInt8} (hok : v.ok) {q i : Nat} : v.mkd s q i q ↔ v.Rch s q := ⟨mk_rch, rch_mk hok⟩
theorem mk_next {v : VV} {s : List UInt8} {q j : Nat} (n : Nat) (hn : v.texts.length ≤ n) : v.mkd s q n j ↔ v.mkd s (q + 1) 0 j := by
  constructor
  · rintro (h | ⟨a, k, h, h1, h2, h3, h4⟩)
    · exact .inl h
    · exact .inr ⟨a, k, .inl (by omega), h1, h2, h3, h4⟩
  · rintro (h | ⟨a, k, h, h1, h2, h3, h4⟩)
    · exact .inl h
    · exact .inr ⟨a, k, by omega, h1, h2, h3, h4⟩
theorem mk_skip {v : VV} {s : List UInt8} {q i j : Nat} (h : ¬ v.Rch s q) : v.mkd s q i j ↔ v.mkd s (q + 1) 0 j := by
  constructor
  · rintro (h | ⟨a, k, h, h1, h2, h3, h4⟩)
    · exact .inl h
    · exact .inr ⟨a, k, .inl (by omega), h1, h2, h3, h4⟩
  · rintro (h' | ⟨a, k, h', h1, h2, h3, h4⟩)
    · exact .inl h'
    · refine .inr ⟨a, k, .inl ?_, h1, h2, h3, h4⟩
      by_cases e : a = q
      · subst e; exact absurd h1 h
      · omega
theorem mk_no {v : VV} {s : List UInt8} {q i j : Nat} (h : ¬ v.sd s q i) : v.mkd s q (i + 1) j ↔ v.mkd s q i j := by
  constructor
  · rintro (h' | ⟨a, k, h', h1, h2, h3, h4⟩)
    · exact .inl h'
    · refine .inr ⟨a, k, ?_, h1, h2, h3, h4⟩
      rcases h' with h' | ⟨rfl, h'⟩
      · exact .inl h'
      · by_cases e : k = i
        · subst e; exact absurd h3 h
        · exact .inr ⟨rfl, by omega⟩
  · rintro (h' | ⟨a, k, h', h1, h2, h3, h4⟩)
    · exact .inl h'
    · exact .inr ⟨a, k, by omega, h1, h2, h3, h4⟩
theorem mk_yes {v : VV} {s : List UInt8} {q i j : Nat} (hr : v.Rch s q) (hi : i < v.texts.length) (h : v.sd s q i) : v.mkd s q (i + 1) j ↔ (j = q + (v.t i).length ∨ v.mkd s q i j) := by
  constructor
  · rintro (h' | ⟨a, k, h', h1, h2, h3, h4⟩)
    · exact .inr (.inl h')
    · rcases h' with h' | ⟨rfl, h'⟩
      · exact .inr (.inr ⟨a, k, .inl h', h1, h2, h3, h4⟩)
      · by_cases e : k = i
        · subst e; exact .inl h4
        · exact .inr (.inr ⟨a, k, .inr ⟨rfl, by omega⟩, h1, h2, h3, h4⟩)
  · rintro (h' | h' | ⟨a, k, h', h1, h2, h3, h4⟩)
    · exact .inr ⟨q, i, .inr ⟨rfl, by omega⟩, hr, hi, h, h'⟩
    · exact .inl h'
    · exact .inr ⟨a, k, by omega, h1, h2, h3, h4⟩
end Go.Wk.Ytjdfdahdobikmaa
