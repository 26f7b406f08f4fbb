/-
  Plain facts: short numbers and frames are read as they were written; cut ones and turned ones are told.
-/
import Derived.Test.YtihjpjpellagiaaWireF6
set_option linter.unusedVariables false
namespace Go.Wk.Ytihjpjpellagiaa
open Go Go.Wk

theorem drop_cons {s : List UInt8} {m : Nat} {x : UInt8} {q : List UInt8} (h : s.drop m = x :: q) : m < s.length ∧ s.getD m 0 = x ∧ s.drop (m + 1) = q := by
  have hm : m < s.length := by
    by_cases hm : m < s.length
    · exact hm
    · rw [List.drop_eq_nil_of_le (by omega)] at h; cases h
  rw [List.drop_eq_getElem_cons hm] at h
  simp only [List.cons.injEq] at h
  exact ⟨hm, by simp [hm, h.1], h.2⟩
theorem lg_back {s : List UInt8} {a : Nat} : ∀ (r i n v : Nat) {post : List UInt8}, s.drop (a + i) = grB v ++ post → v < 128 ^ r → v * 128 ^ i < 18446744073709551616 → (i = 0 ∨ 0 < v) → (0 < r ∨ 0 < v) → lg s a r i n = (0, n + 128 ^ i * v, a + i + (grB v).length)
  | 0, i, n, v, post, h, hv, _, hi, hr => by
    have hv0 : v = 0 := by simpa using hv
    omega
  | r + 1, i, n, v, post, h, hv, h64, hi, hr => by
    have h9 : i = 9 → v ≤ 1 := fun e => by subst e; omega
    by_cases hs : v < 128
    · rw [grB_small hs] at h ⊢
      obtain ⟨k1, k2, k3⟩ := drop_cons h
      have hb : (UInt8.ofNat v).toNat = v := by rw [UInt8.toNat_ofNat']; omega
      unfold lg
      rw [k2, hb, if_neg (by omega), if_neg (by omega), if_pos hs, if_neg (by omega)]
      rfl
    · rw [grB_big hs] at h ⊢
      obtain ⟨k1, k2, k3⟩ := drop_cons h
      have hb : (UInt8.ofNat (v % 128 + 128)).toNat = v % 128 + 128 := by rw [UInt8.toNat_ofNat']; omega
      unfold lg
      rw [k2, hb, if_neg (by omega), if_neg (by omega), if_neg (by omega)]
      have e1 : v / 128 * 128 ^ (i + 1) ≤ v * 128 ^ i := by
        rw [Nat.pow_succ, Nat.mul_comm (128 ^ i) 128, ← Nat.mul_assoc]
        exact Nat.mul_le_mul_right _ (by omega)
      rw [lg_back r (i + 1) _ (v / 128) k3 (by rw [Nat.pow_succ] at hv; omega) (by omega) (.inr (by omega)) (.inr (by omega))]
      have e2 : (v % 128 + 128) % 128 = v % 128 := by omega
      have e3 : 128 ^ (i + 1) * (v / 128) = 128 ^ i * (128 * (v / 128)) := by rw [Nat.pow_succ, Nat.mul_assoc]
      have e4 : 128 ^ i * v = 128 ^ i * (v % 128) + 128 ^ i * (128 * (v / 128)) := by rw [← Nat.mul_add]; congr 1; omega
      rw [e2, e3, e4]
      simp only [List.length_cons, Prod.mk.injEq, true_and]
      exact ⟨by omega, by omega⟩

theorem lg_cut {s : List UInt8} {a : Nat} : ∀ (r i n v j : Nat), s.drop (a + i) = (grB v).take j → j < (grB v).length → (lg s a r i n).1 ≠ 0
  | 0, i, n, v, j, h, hj => by unfold lg; show (10 : Int) ≠ 0; omega
  | r + 1, i, n, v, j, h, hj => by
    cases j with
    | zero =>
      rw [List.take_zero] at h
      have hl : s.length ≤ a + i := List.drop_eq_nil_iff.1 h
      unfold lg
      rw [if_pos hl]; show (11 : Int) ≠ 0; omega
    | succ j =>
      by_cases hs : v < 128
      · rw [grB_small hs] at hj; simp at hj
      · rw [grB_big hs] at h hj
        rw [List.take_succ_cons] at h
        obtain ⟨k1, k2, k3⟩ := drop_cons h
        have hb : (UInt8.ofNat (v % 128 + 128)).toNat = v % 128 + 128 := by rw [UInt8.toNat_ofNat']; omega
        unfold lg
        rw [k2, hb, if_neg (by omega)]
        by_cases h9 : i = 9 ∧ 1 < v % 128 + 128
        · rw [if_pos h9]; show (10 : Int) ≠ 0; omega
        · rw [if_neg h9, if_neg (by omega)]
          exact lg_cut r (i + 1) _ (v / 128) j k3 (by simpa using hj)

theorem cut_of_drop {s mid post : List UInt8} {a k : Nat} (h : s.drop a = mid ++ post) (hk : k = mid.length) : cut s a k = mid := by
  subst hk; unfold cut; rw [h]; simp
theorem drop_of_drop {s mid post : List UInt8} {a k : Nat} (h : s.drop a = mid ++ post) (hk : k = mid.length) : s.drop (a + k) = post := by
  subst hk; rw [← List.drop_drop, h]; simp
theorem len_of_drop {s q : List UInt8} {a : Nat} (h : s.drop a = q) (hq : 0 < q.length) : s.length = a + q.length := by
  have := congrArg List.length h; rw [List.length_drop] at this; omega
theorem lg_len {s t q : List UInt8} {a : Nat} (h : s.drop a = grB t.length ++ q) (ht : t.length ≤ 2147483647) : lg s a 9 0 0 = (0, t.length, a + (grB t.length).length) := by
  have := lg_back (s := s) (a := a) 9 0 0 t.length (post := q) h (Nat.lt_of_le_of_lt (m := 9223372036854775808 - 1) (by omega) (by decide)) (by omega) (.inl rfl) (.inl (by omega))
  simpa using this
/-- what reading a frame answers, where its bytes are whole: c is the sum -/
theorem fr_gen {s t c post : List UInt8} {a : Nat} {m : Int} (h : s.drop a = grB t.length ++ (t ++ (c ++ post))) (hc : c.length = 4) (hm : (t.length : Int) ≤ m) (ht : t.length ≤ 2147483647) :
    frR s a m = if leN c ≠ crc t then (15, [], a) else (0, t, a + (grB t.length).length + t.length + 4) := by
  have hlg := lg_len h ht
  have hl := len_of_drop h (by have := grB_pos t.length; simp only [List.length_append]; omega)
  simp only [List.length_append] at hl
  have d1 := drop_of_drop h rfl
  have d2 := drop_of_drop d1 rfl
  have c1 : cut s (a + (grB t.length).length) t.length = t := cut_of_drop d1 rfl
  have c2 : cut s (a + (grB t.length).length + t.length) 4 = c := cut_of_drop d2 hc.symm
  unfold frR
  rw [hlg]
  simp only [c1, c2]
  rw [if_neg (by omega), if_neg (by omega), if_neg (by omega), if_neg (by omega)]
theorem leN_crc (t : List UInt8) : leN (leB (crc t) 4) = crc t := by
  have h := leN_leB (n := (crc t : Int)) (by omega) 4
  have hlt := crc_lt t
  have e : ((256 : Int) ^ 4) = 4294967296 := by decide
  rw [e] at h
  omega
theorem fr_back {s t post : List UInt8} {a : Nat} {m : Int} (h : s.drop a = frB t ++ post) (hm : (t.length : Int) ≤ m) (ht : t.length ≤ 2147483647) : frR s a m = (0, t, a + (frB t).length) := by
  have h' : s.drop a = grB t.length ++ (t ++ (leB (crc t) 4 ++ post)) := by rw [h, frB]; simp
  rw [fr_gen h' (leB_len _ _) hm ht, leN_crc, if_neg (by simp)]
  simp [frB, leB_len, Nat.add_assoc]
theorem fr_cut {s t : List UInt8} {a j : Nat} {m : Int} (h : s.drop a = (frB t).take j) (hj : j < (frB t).length) (ht : t.length ≤ 2147483647) : (frR s a m).1 ≠ 0 := by
  unfold frR
  split
  · show (1 : Int) ≠ 0; omega
  by_cases hg : j < (grB t.length).length
  · have h1 : s.drop (a + 0) = (grB t.length).take j := by
      rw [Nat.add_zero, h, frB, List.append_assoc, List.take_append_of_le_length (by omega)]
    have h2 := lg_cut 9 0 0 t.length j h1 hg
    rw [if_pos h2]; exact h2
  · have h1 : s.drop a = grB t.length ++ (t ++ leB (crc t) 4).take (j - (grB t.length).length) := by
      rw [h, frB, List.append_assoc, List.take_append, List.take_of_length_le (by omega)]
    have hlg := lg_len h1 ht
    have hl := congrArg List.length h1
    simp only [List.length_drop, List.length_append, List.length_take, leB_len] at hl
    simp only [frB, List.length_append, leB_len] at hj
    rw [hlg]
    simp only [ne_eq, not_true_eq_false, if_false]
    split
    · show (12 : Int) ≠ 0; omega
    · rw [if_pos (by omega)]; show (11 : Int) ≠ 0; omega

/-- frames one behind the other -/
def frL (l : List (List UInt8)) : List UInt8 := l.flatMap frB
theorem frL_snoc (l : List (List UInt8)) (t : List UInt8) : frL (l ++ [t]) = frL l ++ frB t := by simp [frL]
theorem frs_back {s : List UInt8} : ∀ (l : List (List UInt8)) (f a j : Nat) (t : List UInt8), s.drop a = frL l ++ (frB t).take j → j < (frB t).length → t.length ≤ 2147483647 → (∀ u ∈ l, u.length ≤ 2147483647) → s.length < a + f → a ≤ s.length → frs s f a = (l, a + (frL l).length)
  | l, 0, a, j, t, h, hj, ht, hl, hf, ha => by omega
  | [], f + 1, a, j, t, h, hj, ht, hl, hf, ha => by
    have h1 : s.drop a = (frB t).take j := by rw [h]; rfl
    unfold frs
    rw [if_neg (fr_cut h1 hj ht)]; rfl
  | u :: l, f + 1, a, j, t, h, hj, ht, hl, hf, ha => by
    have hu := hl u (by simp)
    have h1 : s.drop a = frB u ++ (frL l ++ (frB t).take j) := by rw [h]; simp [frL]
    have hlen := len_of_drop h1 (by have := frB_len u (by omega); simp only [List.length_append]; omega)
    simp only [List.length_append] at hlen
    have hub := frB_len u (by omega)
    have hb := fr_back (m := s.length) h1 (by omega) hu
    have d1 := drop_of_drop h1 rfl
    have ih := frs_back l f (a + (frB u).length) j t d1 hj ht (fun x hx => hl x (by simp [hx])) (by omega) (by omega)
    unfold frs
    rw [hb, if_pos rfl]
    simp only [ih]
    simp [frL, Nat.add_assoc]

theorem unzz_zz {n : Int} (h1 : -9223372036854775808 ≤ n) (h2 : n ≤ 9223372036854775807) : unzz (zz n) = n := by
  unfold unzz zz
  by_cases h : n < 0
  · rw [if_pos h, if_pos (by omega)]; omega
  · rw [if_neg h, if_neg (by omega)]; omega
theorem sg_back {s post : List UInt8} {a : Nat} {n : Int} (h : s.drop a = grB (zz n) ++ post) (h1 : -9223372036854775808 ≤ n) (h2 : n ≤ 9223372036854775807) : lg s a 10 0 0 = (0, zz n, a + (grB (zz n)).length) := by
  have hz := zz_lt h1 h2
  have := lg_back (s := s) (a := a) 10 0 0 (zz n) (post := post) h (Nat.lt_of_le_of_lt (m := 1180591620717411303424 - 1) (by omega) (by decide)) (by omega) (.inl rfl) (.inl (by omega))
  simpa using this
theorem sh_back {s post : List UInt8} {a n : Nat} (h : s.drop a = grB n ++ post) (h2 : n ≤ 9223372036854775807) : lg s a 9 0 0 = (0, n, a + (grB n).length) := by
  have := lg_back (s := s) (a := a) 9 0 0 n (post := post) h (Nat.lt_of_le_of_lt (m := 9223372036854775808 - 1) (by omega) (by decide)) (by omega) (.inl rfl) (.inl (by omega))
  simpa using this

/-! ### turned frames, digits -/
theorem leN_inj : ∀ {l m : List UInt8}, l.length = m.length → leN l = leN m → l = m
  | [], [], _, _ => rfl
  | [], _ :: _, h, _ => by cases h
  | _ :: _, [], h, _ => by cases h
  | x :: l, y :: m, h, he => by
    simp only [leN] at he
    have hx := x.toNat_lt; have hy := y.toNat_lt
    have h1 : x.toNat = y.toNat := by omega
    have h2 : leN l = leN m := by omega
    rw [UInt8.toNat_inj.1 h1, leN_inj (by simpa using h) h2]
theorem take_at {A B : List UInt8} {k : Nat} (h : A.length ≤ k) : (A ++ B).take k = A ++ B.take (k - A.length) := by rw [List.take_append, List.take_of_length_le h]
theorem drop_at {A B : List UInt8} {k : Nat} (h : A.length ≤ k) : (A ++ B).drop k = B.drop (k - A.length) := by rw [List.drop_append, List.drop_eq_nil_of_le h, List.nil_append]
theorem getD_right {A B : List UInt8} {k : Nat} (h : A.length ≤ k) : (A ++ B).getD k 0 = B.getD (k - A.length) 0 := by
  simp only [List.getD_eq_getElem?_getD, List.getElem?_append_right h]
theorem getD_left {A B : List UInt8} {k : Nat} (h : k < A.length) : (A ++ B).getD k 0 = A.getD k 0 := by
  simp only [List.getD_eq_getElem?_getD, List.getElem?_append_left h]
theorem turn_eq {B : List UInt8} {j : Nat} {y : UInt8} (hj : j < B.length) : B = B.take j ++ B.getD j 0 :: B.drop (j + 1) := by
  have : B.getD j 0 = B[j] := by simp [hj]
  rw [this, List.getElem_cons_drop, List.take_append_drop]
theorem fr_turned {s : List UInt8} {k : Nat} {y : UInt8} (hs : s.length ≤ 2147483647) (h1 : (grB s.length).length ≤ k) (h2 : k < (frB s).length) (hy : (frB s).getD k 0 ≠ y) :
    frR ((frB s).take k ++ [y] ++ (frB s).drop (k + 1)) 0 s.length = (15, [], 0) := by
  have e0 : frB s = grB s.length ++ (s ++ leB (crc s) 4) := by rw [frB, List.append_assoc]
  rw [e0, getD_right h1] at hy
  rw [e0, List.length_append, List.length_append, leB_len] at h2
  rw [e0, take_at h1, drop_at (by omega)]
  generalize hj : k - (grB s.length).length = j at *
  rw [show k + 1 - (grB s.length).length = j + 1 by omega]
  by_cases hjs : j < s.length
  · have hg : (s ++ leB (crc s) 4).getD j 0 = s.getD j 0 := getD_left hjs
    rw [hg] at hy
    have e1 : (s ++ leB (crc s) 4).take j = s.take j := List.take_append_of_le_length (by omega)
    have e2 : (s ++ leB (crc s) 4).drop (j + 1) = s.drop (j + 1) ++ leB (crc s) 4 := List.drop_append_of_le_length (by omega)
    rw [e1, e2]
    have hl : (s.take j ++ y :: s.drop (j + 1)).length = s.length := by simp; omega
    have hd : List.drop 0 (grB s.length ++ s.take j ++ [y] ++ (s.drop (j + 1) ++ leB (crc s) 4)) = grB (s.take j ++ y :: s.drop (j + 1)).length ++ ((s.take j ++ y :: s.drop (j + 1)) ++ (leB (crc s) 4 ++ [])) := by
      rw [hl]; simp
    have := fr_gen (m := s.length) hd (leB_len _ _) (by omega) (by omega)
    rw [this, leN_crc, if_pos]
    intro he
    rw [turn_eq (y := y) hjs] at he
    exact crc_turn (s.take j) (s.drop (j + 1)) hy (by simpa [hjs] using he)
  · have hq : (leB (crc s : Int) 4).length = 4 := leB_len _ _
    rw [getD_right (by omega)] at hy
    rw [take_at (by omega), drop_at (by omega)]
    generalize hi : j - s.length = i at *
    rw [show j + 1 - s.length = i + 1 by omega]
    have hi4 : i < 4 := by omega
    generalize hc : leB (crc s : Int) 4 = c at *
    have hl : (c.take i ++ y :: c.drop (i + 1)).length = 4 := by simp; omega
    have hd : List.drop 0 (grB s.length ++ (s ++ c.take i) ++ [y] ++ c.drop (i + 1)) = grB s.length ++ (s ++ ((c.take i ++ y :: c.drop (i + 1)) ++ [])) := by simp
    have := fr_gen (m := s.length) hd hl (by omega) (by omega)
    rw [this, if_pos]
    intro he
    have h3 : leN c = crc s := by rw [← hc]; exact leN_crc s
    have h4 := leN_inj (by rw [hl, hq]) (he.trans h3.symm)
    have h5 := congrArg (fun l => l.getD i 0) h4
    simp only [List.getD_eq_getElem?_getD] at h5
    rw [List.getElem?_append_right (by simp; omega)] at h5
    have h6 : i - (c.take i).length = 0 := by simp; omega
    rw [h6] at h5
    simp only [List.getElem?_cons_zero, Option.getD_some] at h5
    exact hy (by rw [h5]; simp)
theorem hexB_get : ∀ (s : List UInt8) (j : Nat), j < s.length → (hexB s).getD (2 * j) 0 = lows.getD ((s.getD j 0).toNat / 16) 0 ∧ (hexB s).getD (2 * j + 1) 0 = lows.getD ((s.getD j 0).toNat % 16) 0
  | [], j, h => by simp at h
  | b :: s, 0, h => ⟨rfl, rfl⟩
  | b :: s, j + 1, h => by
    have := hexB_get s j (by simpa using h)
    exact this
theorem uhR_hex (s : List UInt8) : uhR (hexB s) = (s, 0, 0) := by
  have hl := hexB_len s
  have hd : ∀ j, j < s.length → dgt ((hexB s).getD (2 * j) 0) = ((s.getD j 0).toNat / 16 : Nat) ∧ dgt ((hexB s).getD (2 * j + 1) 0) = ((s.getD j 0).toNat % 16 : Nat) := fun j hj => by
    obtain ⟨e1, e2⟩ := hexB_get s j hj
    have hb := (s.getD j 0).toNat_lt
    rw [e1, e2]
    exact ⟨(dgt_low _ (by omega)).1, (dgt_low _ (by omega)).1⟩
  rw [uhR_good (fun j hj => ?_), if_neg (by omega)]
  · have e : (List.range ((hexB s).length / 2)).map (hexP (hexB s)) = s := by
      apply List.ext_getElem
      · simp; omega
      · intro i h1 h2
        have h3 : i < s.length := h2
        obtain ⟨e1, e2⟩ := hd i h3
        have hb := (s.getD i 0).toNat_lt
        simp only [List.getElem_map, List.getElem_range]
        unfold hexP
        rw [e1, e2, Int.toNat_natCast, Int.toNat_natCast, show 16 * ((s.getD i 0).toNat / 16) + (s.getD i 0).toNat % 16 = (s.getD i 0).toNat by omega]
        simp [h3]
    rw [e]
  · obtain ⟨e1, e2⟩ := hd (j / 2) (by omega)
    rcases Nat.mod_two_eq_zero_or_one j with h | h
    · rw [show 2 * (j / 2) = j by omega] at e1; omega
    · rw [show 2 * (j / 2) + 1 = j by omega] at e2; omega
end Go.Wk.Ytihjpjpellagiaa
