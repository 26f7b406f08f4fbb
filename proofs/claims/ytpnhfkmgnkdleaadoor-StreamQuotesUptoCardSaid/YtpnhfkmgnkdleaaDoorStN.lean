/-
  Plain facts of chapter 14: the program's stream and the document's answer alike.
-/
import Derived.Test.YtpnhfkmgnkdleaaDoorStM
set_option linter.unusedVariables false
namespace Go.Wk.YtpnhfkmgnkdleaaDoor
open Go Go.Wk Go.Lib

theorem getD_app {l b : List UInt8} {n : Nat} (h : n < l.length) : (l ++ b).getD n 0 = l.getD n 0 := by
  rw [List.getD_eq_getElem?_getD, List.getElem?_append_left h, List.getD_eq_getElem?_getD]
theorem goes_app {l b : List UInt8} {n : Nat} (h : n < l.length) : goes (l ++ b) n ↔ goes l n := by
  unfold goes
  rw [getD_app h, getD_app (show 0 < l.length by omega), List.length_append]
  constructor
  · rintro ⟨_, h2⟩; exact ⟨h, h2⟩
  · rintro ⟨_, h2⟩; exact ⟨by omega, h2⟩
theorem fits_app {l b : List UInt8} (hl : 0 < l.length) (hb : halfP l → ¬ goes (l ++ b) l.length) : fits (l ++ b) = fits l := by
  obtain ⟨h1, h2⟩ := fits_spec l
  have hle := fits_le l
  refine fits_of (fun j hj => (goes_app (by omega)).2 (h1 j hj)) ?_
  by_cases hlt : fits l < l.length
  · exact fun h => h2 ((goes_app hlt).1 h)
  · have e : fits l = l.length := by omega
    by_cases hs : l.length < siz (l.getD 0 0)
    · rw [e]; exact hb ⟨hl, e, hs⟩
    · intro h
      have := h.2.1
      rw [getD_app hl] at this
      omega
/-- where a text may be cut: no half character at the first part's end goes on -/
def bord (a b : List UInt8) : Prop := ∀ j, j < a.length → halfP (a.drop j) → ¬ goes (a.drop j ++ b) (a.length - j)
theorem clean_app {a b : List UInt8} (h : bord a b) : clean (a ++ b) = clean a ++ clean b := by
  have key : ∀ (n i : Nat), i ≤ a.length → a.length - i ≤ n → clean (a.drop i ++ b) = clean (a.drop i) ++ clean b := by
    intro n
    induction n with
    | zero =>
      intro i hi hn
      rw [show i = a.length by omega, List.drop_length, clean_nil, List.nil_append, List.nil_append]
    | succ n ih =>
      intro i hi hn
      by_cases hia : i = a.length
      · subst hia
        rw [List.drop_length, clean_nil, List.nil_append, List.nil_append]
      · obtain ⟨l, hl⟩ : ∃ l, l = a.drop i := ⟨_, rfl⟩
        have hll : l.length = a.length - i := by rw [hl, List.length_drop]
        have hp : 0 < l.length := by omega
        have hf : fits (l ++ b) = fits l := fits_app hp (fun hh => by rw [hll, hl]; exact h i (by omega) (hl ▸ hh))
        have hg : good (l ++ b) ↔ good l := by unfold good; rw [hf, getD_app hp]
        have hw : wid (l ++ b) = wid l := by
          unfold wid
          rw [hf]
          by_cases hg1 : good l
          · rw [if_pos hg1, if_pos (hg.2 hg1)]
          · rw [if_neg hg1, if_neg (fun e => hg1 (hg.1 e))]
        have hwl := wid_le hp
        have hw1 := wid_pos l
        have ih' := ih (i + wid l) (by omega) (by omega)
        rw [← List.drop_drop, ← hl] at ih'
        rw [← hl, clean_cons (show 0 < (l ++ b).length by rw [List.length_append]; omega), clean_cons hp, hw, List.append_assoc, List.drop_append_of_le_length hwl, ih']
        by_cases hg1 : good l
        · rw [if_pos hg1, if_pos (hg.2 hg1), List.take_append_of_le_length hwl]
        · rw [if_neg hg1, if_neg (fun e => hg1 (hg.1 e))]
  simpa using key a.length 0 (by omega) (by omega)

theorem stp_congr {stops : List (List UInt8)} {s s' : List UInt8} : ∀ k, (∀ j, j < k → (endsW s (stops.getD j []) ↔ endsW s' (stops.getD j []))) → stp stops s k = stp stops s' k
  | 0, _ => rfl
  | k + 1, h => by
    have ih := stp_congr k (fun j hj => h j (by omega))
    have hk := h k (by omega)
    unfold stp
    rw [ih]
    by_cases hc : endsW s (stops.getD k []) ∧ (stp stops s' k < 0 ∨ (stops.getD (stp stops s' k).toNat []).length < (stops.getD k []).length)
    · rw [if_pos hc, if_pos ⟨hk.1 hc.1, hc.2⟩]
    · rw [if_neg hc, if_neg (fun e => hc ⟨hk.2 e.1, e.2⟩)]
theorem stp_neg {stops : List (List UInt8)} {s : List UInt8} : ∀ k, stp stops s k < 0 ↔ ∀ j, j < k → ¬ endsW s (stops.getD j [])
  | 0 => ⟨fun _ j h => by omega, fun _ => by simp [stp]⟩
  | k + 1 => by
    have ih := stp_neg (stops := stops) (s := s) k
    unfold stp
    split
    · rename_i h
      constructor
      · intro h'; omega
      · intro h'; exact absurd h.1 (h' k (by omega))
    · rename_i h
      constructor
      · intro h' j hj
        by_cases hjk : j = k
        · subst hjk; exact fun e => h ⟨e, .inl h'⟩
        · exact ih.1 h' j (by omega)
      · intro h'; exact ih.2 fun j hj => h' j (by omega)

/-- a first byte that begins a character -/
theorem ok_first {x : List UInt8} (h : okStop x) : siz (x.getD 0 0) ≠ 0 := by
  have hp := List.length_pos_iff.2 h.1
  have hc := clean_cons hp
  rw [h.2.2] at hc
  by_cases hg : good x
  · have h1 := hg.1
    have h2 := hg.2
    omega
  · rw [if_neg hg] at hc
    rw [hc]
    exact (by decide : siz 239 ≠ 0)
theorem lat_siz {f c : UInt8} {p : Nat} (h : lat f p c) : siz c = 0 := by
  have h1 : 128 ≤ c.toNat ∧ c.toNat ≤ 191 := by
    unfold lat at h
    have a1 : 128 ≤ latLo f p := by unfold latLo; (repeat' split) <;> omega
    have a2 : latHi f p ≤ 191 := by unfold latHi; (repeat' split) <;> omega
    omega
  unfold siz
  (repeat' split) <;> omega

/-- a stream that goes on: what was fed, what is held, what came out -/
structure Live (stops : List (List UInt8)) (all raw out : List UInt8) : Prop where
  no : ∀ n, n ≤ all.length → stpA stops (all.take n) < 0
  keep : raw = held stops all
  out : out = clean (all.take (all.length - raw.length))

theorem heldAt_ge (stops : List (List UInt8)) (s : List UInt8) : s.length - 64 ≤ heldAt stops s := (fst_spec _ _ _).1
theorem heldAt_no (stops : List (List UInt8)) (s : List UInt8) : ∀ j, s.length - 64 ≤ j → j < heldAt stops s → ¬ BeginP stops (s.drop j) := (fst_spec _ _ _).2.2.1
theorem heldAt_at (stops : List (List UInt8)) (s : List UInt8) (h : heldAt stops s < s.length) : BeginP stops (s.drop (heldAt stops s)) := (fst_spec (fun j => BeginP stops (s.drop j)) (s.length - (s.length - 64)) (s.length - 64)).2.2.2 (by unfold heldAt at h; omega)
theorem held_len (stops : List (List UInt8)) (s : List UInt8) : (held stops s).length = s.length - heldAt stops s := by unfold held; rw [List.length_drop]
theorem held_le (stops : List (List UInt8)) (s : List UInt8) : (held stops s).length ≤ 64 ∧ (held stops s).length ≤ s.length := by
  rw [held_len]
  have := heldAt_ge stops s
  omega

theorem half_le {l : List UInt8} (h : halfP l) : l.length ≤ 3 := by have := h.2.2; have := siz_le (l.getD 0 0); omega
theorem half_pre {a b : List UInt8} (h : halfP (a ++ b)) (ha : 0 < a.length) : halfP a := by
  obtain ⟨h1, h2, h3⟩ := h
  rw [getD_app ha, List.length_append] at h3
  refine ⟨ha, ?_, by omega⟩
  have hs := (fits_spec (a ++ b)).1
  rw [h2, List.length_append] at hs
  refine fits_of (fun j hj => (goes_app hj).1 (hs j (by omega))) (fun h => ?_)
  have := h.1
  omega
theorem begin_pre {stops : List (List UInt8)} {a b : List UInt8} (h : BeginP stops (a ++ b)) (ha : 0 < a.length) : BeginP stops a := by
  rcases h with h | ⟨x, hx, h1, h2⟩
  · exact .inl (half_pre h ha)
  · refine .inr ⟨x, hx, by rw [List.length_append] at h1; omega, ?_⟩
    have := congrArg (List.take a.length) h2
    rw [List.take_take, List.length_append, Nat.min_eq_left (by omega), List.take_left] at this
    exact this
theorem begin_len {stops : List (List UInt8)} (hok : ∀ x ∈ stops, okStop x) {t : List UInt8} (h : BeginP stops t) : t.length ≤ 63 := by
  rcases h with h | ⟨x, hx, h1, _⟩
  · have := half_le h; omega
  · have := (hok x hx).2.1; omega
theorem begin_first {stops : List (List UInt8)} (hok : ∀ x ∈ stops, okStop x) {t : List UInt8} (ht : 0 < t.length) (h : BeginP stops t) : siz (t.getD 0 0) ≠ 0 := by
  rcases h with h | ⟨x, hx, h1, h2⟩
  · have := h.2.2; omega
  · have h3 := ok_first (hok x hx)
    have e : t.getD 0 0 = x.getD 0 0 := by
      rw [← h2, List.getD_eq_getElem?_getD, List.getElem?_take, if_pos ht, List.getD_eq_getElem?_getD]
    rw [e]; exact h3

theorem Live.border {stops : List (List UInt8)} (hok : ∀ x ∈ stops, okStop x) {all raw out : List UInt8} (h : Live stops all raw out) {y : List UInt8} (hy : y = [] ∨ raw = [] ∨ y.getD 0 0 = raw.getD 0 0) : bord (all.take (all.length - raw.length)) y := by
  have hr := h.keep
  have hrl := held_len stops all
  rw [← hr] at hrl
  have hle := heldAt_le stops all
  intro j hj hh hg
  rw [List.length_take] at hj hg
  have hhl := half_le hh
  rw [List.length_drop, List.length_take] at hhl
  have hl : ((all.take (all.length - raw.length)).drop j).length = min (all.length - raw.length) all.length - j := by rw [List.length_drop, List.length_take]
  obtain ⟨l, hL⟩ : ∃ l, l = (all.take (all.length - raw.length)).drop j := ⟨_, rfl⟩
  rw [← hL] at hh hg hl
  rw [← hl] at hg
  have h1 := hg.1
  rw [List.length_append] at h1
  have zero : raw.length = 0 → False := fun h0 => by
    have e : all.take (all.length - raw.length) = all := by rw [h0, Nat.sub_zero, List.take_length]
    rw [e] at hL
    rw [h0] at hl hrl
    exact heldAt_no stops all j (by omega) (by omega) (.inl (hL ▸ hh))
  rcases hy with rfl | hy | hy
  · rw [List.length_nil] at h1; omega
  · exact zero (by rw [hy]; rfl)
  · have hrp : 0 < raw.length := Nat.pos_of_ne_zero zero
    have hB := heldAt_at stops all (by omega)
    have hrr : all.drop (heldAt stops all) = raw := hr.symm
    rw [hrr] at hB
    have hs := begin_first hok hrp hB
    rcases hg.2.2 with h0 | h0
    · have := hh.1; omega
    · have e : (l ++ y).getD l.length 0 = y.getD 0 0 := by
        rw [List.getD_eq_getElem?_getD, List.getElem?_append_right (Nat.le_refl _), Nat.sub_self, List.getD_eq_getElem?_getD]
      rw [e, hy] at h0
      exact hs (lat_siz h0)

theorem List.drop_append_of_le_length' {a b : List UInt8} {j : Nat} (h : a.length ≤ j) : (a ++ b).drop j = b.drop (j - a.length) := by
  rw [List.drop_append, List.drop_eq_nil_of_le h, List.nil_append]
theorem endsW_suf {s t : List UInt8} : endsW s t ↔ ∃ q, s = q ++ t := by
  constructor
  · rintro ⟨h1, h2⟩
    have e := List.take_append_drop (s.length - t.length) s
    rw [h2] at e
    exact ⟨_, e.symm⟩
  · rintro ⟨q, rfl⟩; exact ⟨by simp, by simp⟩
/-- nothing longer than what is held begins anything -/
theorem Live.longer {stops : List (List UInt8)} (hok : ∀ x ∈ stops, okStop x) {all raw out : List UInt8} (h : Live stops all raw out) {pre q r : List UInt8} (hall : all = pre ++ raw) (hp : pre = r ++ q) (hq : 0 < q.length) : ¬ BeginP stops (q ++ raw) := fun hB => by
  have hl := begin_len hok hB
  have hr := h.keep
  have hrl := held_len stops all
  rw [← hr] at hrl
  have hle := heldAt_le stops all
  rw [List.length_append] at hl
  have hal : all.length = r.length + q.length + raw.length := by rw [hall, hp]; simp [Nat.add_assoc]
  refine heldAt_no stops all r.length (by omega) (by omega) ?_
  have e : all.drop r.length = q ++ raw := by rw [hall, hp, List.append_assoc, List.drop_left]
  rw [e]; exact hB

/-- a stop text that ends behind what was held lies in what was held and the rest -/
theorem Live.stops {stops : List (List UInt8)} (hok : ∀ x ∈ stops, okStop x) {all raw out : List UInt8} (h : Live stops all raw out) {pre y : List UInt8} (hall : all = pre ++ raw) (hy : 0 < y.length) : stpA stops (pre ++ (raw ++ y)) = stpA stops (raw ++ y) := by
  refine stp_congr _ (fun j hj => ?_)
  have hm := getD_mem' hj
  generalize stops.getD j [] = x at *
  rw [endsW_suf, endsW_suf]
  constructor
  · rintro ⟨q, hq⟩
    rcases List.append_eq_append_iff.1 hq with ⟨z, h1, h2⟩ | ⟨z, h1, h2⟩
    · exact ⟨z, h2⟩
    · by_cases hz : z = []
      · subst hz; exact ⟨[], by simpa using h2.symm⟩
      · exfalso
        refine h.longer hok hall h1 (List.length_pos_iff.2 hz) (.inr ⟨x, hm, ?_, ?_⟩)
        · rw [h2]; simp only [List.length_append]; omega
        · rw [h2, ← List.append_assoc, List.take_left]
  · rintro ⟨q, hq⟩
    exact ⟨pre ++ q, by rw [hq, List.append_assoc]⟩
theorem Live.begins {stops : List (List UInt8)} (hok : ∀ x ∈ stops, okStop x) {all raw out : List UInt8} (h : Live stops all raw out) {pre y q r : List UInt8} (hall : all = pre ++ raw) (hp : pre = r ++ q) (hq : 0 < q.length) : ¬ BeginP stops (q ++ (raw ++ y)) := fun hB => by
  rw [← List.append_assoc] at hB
  exact h.longer hok hall hp hq (begin_pre hB (by rw [List.length_append]; omega))

theorem Live.split {stops : List (List UInt8)} {all raw out : List UInt8} (h : Live stops all raw out) : all = all.take (all.length - raw.length) ++ raw ∧ raw.length ≤ all.length := by
  have hr := h.keep
  have hl := (held_le stops all).2
  rw [← hr] at hl
  refine ⟨?_, hl⟩
  have hd : raw = all.drop (all.length - raw.length) := by
    rw [hr, held_len]
    have := heldAt_le stops all
    rw [show all.length - (all.length - heldAt stops all) = heldAt stops all by omega]; rfl
  conv => rhs; rhs; rw [hd]
  rw [List.take_append_drop]
theorem Live.at {stops : List (List UInt8)} (hok : ∀ x ∈ stops, okStop x) {all raw out : List UInt8} (h : Live stops all raw out) {pre : List UInt8} (hall : all = pre ++ raw) (piece : List UInt8) :
    (∀ m, m ≤ all.length → stpA stops ((all ++ piece).take m) < 0) ∧ ∀ k, raw.length < k → k ≤ (raw ++ piece).length → stpA stops ((all ++ piece).take (pre.length + k)) = stpA stops ((raw ++ piece).take k) := by
  refine ⟨fun m hm => by rw [List.take_append_of_le_length hm]; exact h.no m hm, fun k h1 h2 => ?_⟩
  have e1 : (all ++ piece).take (pre.length + k) = pre ++ (raw ++ piece.take (k - raw.length)) := by
    rw [hall, List.append_assoc, List.take_append, List.take_of_length_le (by omega), show pre.length + k - pre.length = k by omega, List.take_append, List.take_of_length_le (show raw.length ≤ k by omega)]
  have e2 : (raw ++ piece).take k = raw ++ piece.take (k - raw.length) := by
    rw [List.take_append, List.take_of_length_le (show raw.length ≤ k by omega)]
  rw [e1, e2]
  rw [List.length_append] at h2
  exact h.stops hok hall (by rw [List.length_take]; omega)

/-- a stop text is met -/
theorem Live.meets {stops : List (List UInt8)} (hok : ∀ x ∈ stops, okStop x) {all raw out : List UInt8} (h : Live stops all raw out) {piece : List UInt8} {n : Nat} (h1 : raw.length < n) (h2 : n ≤ (raw ++ piece).length)
    (h3 : ∀ m, raw.length < m → m < n → stpA stops ((raw ++ piece).take m) < 0) (h4 : 0 ≤ stpA stops ((raw ++ piece).take n)) :
    cutM stops (all ++ piece) = stpA stops ((raw ++ piece).take n) ∧
      clean (cutT stops (all ++ piece)) = out ++ clean ((raw ++ piece).take (n - (stops.getD (stpA stops ((raw ++ piece).take n)).toNat []).length)) := by
  obtain ⟨hall, hrl⟩ := h.split
  obtain ⟨pre, hpre⟩ : ∃ pre, pre = all.take (all.length - raw.length) := ⟨_, rfl⟩
  have hout := h.out
  have hbord := fun y => h.border hok (y := y)
  rw [← hpre] at hall hout hbord
  obtain ⟨a1, a2⟩ := h.at hok hall piece
  have hal : all.length = pre.length + raw.length := by rw [hall, List.length_append]
  have hl : (all ++ piece).length = pre.length + (raw ++ piece).length := by simp [hal]; omega
  have hN : cutN stops (all ++ piece) = pre.length + n := by
    refine fst_of (by omega) (by omega) (fun j _ hj => ?_) (fun _ => by rw [a2 n h1 h2]; exact h4)
    by_cases hja : j ≤ all.length
    · have := a1 j hja; omega
    · have := h3 (j - pre.length) (by omega) (by omega)
      have e := a2 (j - pre.length) (by omega) (by omega)
      rw [show pre.length + (j - pre.length) = j by omega] at e
      rw [e]; omega
  have hM : cutM stops (all ++ piece) = stpA stops ((raw ++ piece).take n) := by
    unfold cutM; rw [hN, if_pos (by omega), a2 n h1 h2]
  refine ⟨hM, ?_⟩
  have hsl := stp_lt stops ((raw ++ piece).take n) stops.length
  have hend : (stops.getD (stpA stops ((raw ++ piece).take n)).toNat []).length ≤ ((raw ++ piece).take n).length := (hsl.2.2 h4).1
  have hlt : (stpA stops ((raw ++ piece).take n)).toNat < stops.length := by have := hsl.2.1; have h5 : 0 ≤ stp stops ((raw ++ piece).take n) stops.length := h4; show (stp stops ((raw ++ piece).take n) stops.length).toNat < stops.length; omega
  have hx := hok _ (getD_mem' (l := stops) (j := (stpA stops ((raw ++ piece).take n)).toNat) hlt)
  rw [List.length_take] at hend
  have hT : cutT stops (all ++ piece) = pre ++ (raw ++ piece).take (n - (stops.getD (stpA stops ((raw ++ piece).take n)).toNat []).length) := by
    unfold cutT
    rw [hN, if_pos (by omega), hM, hall, List.append_assoc, List.take_append, List.take_of_length_le (l := pre) (by omega)]
    congr 2
    omega
  obtain ⟨k, hk⟩ : ∃ k, k = n - (stops.getD (stpA stops ((raw ++ piece).take n)).toNat []).length := ⟨_, rfl⟩
  rw [hT, ← hk, hout]
  refine clean_app (hbord _ ?_)
  by_cases hk0 : k = 0
  · exact .inl (by rw [hk0, List.take_zero])
  · by_cases hr0 : raw = []
    · exact .inr (.inl hr0)
    · have := List.length_pos_iff.2 hr0
      refine .inr (.inr ?_)
      rw [List.getD_eq_getElem?_getD, List.getElem?_take, if_pos (by omega), List.getElem?_append_left this, List.getD_eq_getElem?_getD]

theorem hlf_spec (s : List UInt8) : (0 < hlf s → halfP (s.drop (s.length - hlf s))) ∧ ∀ m, hlf s < m → m ≤ s.length → m ≤ 3 → ¬ halfP (s.drop (s.length - m)) := by
  have h2 : ∀ m, m = 3 ∨ m = 2 ∨ m = 1 → m ≤ s.length → halfP (s.drop (s.length - m)) → m ≤ hlf s := by
    intro m hm h1 h2
    unfold hlf
    rcases hm with rfl | rfl | rfl <;> (repeat' split) <;> first | omega | exact absurd (And.intro h1 h2) (by assumption)
  refine ⟨?_, fun m h1 h3 h4 h5 => ?_⟩
  · unfold hlf
    intro h
    (repeat' split) <;> (rename_i g; first | exact g.2 | skip)
    all_goals simp_all
  · have := h2 m (by omega) h3 h5
    omega
/-- none is met -/
theorem Live.goesOn {stops : List (List UInt8)} (hok : ∀ x ∈ stops, okStop x) {all raw out : List UInt8} (h : Live stops all raw out) {piece : List UInt8} (hno : ∀ m, raw.length < m → m ≤ (raw ++ piece).length → stpA stops ((raw ++ piece).take m) < 0) {b : Nat} (hb : IsB stops (raw ++ piece) stops.length b) :
    cutM stops (all ++ piece) = -1 ∧ cutT stops (all ++ piece) = all ++ piece ∧ (held stops (all ++ piece)).length = max (hlf (raw ++ piece)) b ∧
      Live stops (all ++ piece) ((raw ++ piece).drop ((raw ++ piece).length - max (hlf (raw ++ piece)) b)) (out ++ clean ((raw ++ piece).take ((raw ++ piece).length - max (hlf (raw ++ piece)) b))) := by
  obtain ⟨hall, hrl⟩ := h.split
  obtain ⟨pre, hpre⟩ : ∃ pre, pre = all.take (all.length - raw.length) := ⟨_, rfl⟩
  have hout := h.out
  have hbord := fun y => h.border hok (y := y)
  rw [← hpre] at hall hout hbord
  obtain ⟨a1, a2⟩ := h.at hok hall piece
  have hal : all.length = pre.length + raw.length := by rw [hall, List.length_append]
  have hno' : ∀ j, j ≤ (all ++ piece).length → stpA stops ((all ++ piece).take j) < 0 := fun j hj => by
    by_cases hja : j ≤ all.length
    · exact a1 j hja
    · have hl : (all ++ piece).length = pre.length + (raw ++ piece).length := by simp [hal]; omega
      have := hno (j - pre.length) (by omega) (by omega)
      have e := a2 (j - pre.length) (by omega) (by omega)
      rw [show pre.length + (j - pre.length) = j by omega] at e
      rw [e]; exact this
  have hN : cutN stops (all ++ piece) = (all ++ piece).length + 1 := fst_of (by omega) (by omega) (fun j _ hj => by have := hno' j (by omega); omega) (fun h => absurd h (by omega))
  have hM : cutM stops (all ++ piece) = -1 := by unfold cutM; rw [hN, if_neg (by omega)]
  have hT : cutT stops (all ++ piece) = all ++ piece := by unfold cutT; rw [hN, if_neg (by omega)]
  obtain ⟨rp, hrp⟩ : ∃ rp, rp = raw ++ piece := ⟨_, rfl⟩
  have hap : all ++ piece = pre ++ rp := by rw [hrp, ← List.append_assoc, ← hall]
  rw [← hrp] at hb hno ⊢
  obtain ⟨mx, hmx⟩ : ∃ mx, mx = max (hlf rp) b := ⟨_, rfl⟩
  rw [← hmx]
  have hh := hlf_spec rp
  have hhl := hlf_le rp
  have hbl := hb.le
  have hl : (all ++ piece).length = pre.length + rp.length := by rw [hap, List.length_append]
  have hbeg : 0 < mx → BeginP stops (rp.drop (rp.length - mx)) := fun h0 => by
    by_cases hm : mx = hlf rp
    · rw [hm]; exact .inl (hh.1 (by omega))
    · have hm2 : mx = b := by omega
      rw [hm2]
      obtain ⟨_, j, hj, g1, g2, g3⟩ := hb.1 (by omega)
      have hmem := getD_mem' hj
      have g4 := g3.2
      rw [List.length_take, Nat.min_eq_left (by omega)] at g4
      refine .inr ⟨_, hmem, by rw [List.length_drop]; omega, ?_⟩
      rw [List.length_drop, show rp.length - (rp.length - b) = b by omega, g4]
  have hm63 : mx ≤ 63 := by
    by_cases h0 : 0 < mx
    · have := begin_len hok (hbeg h0); rw [List.length_drop] at this; omega
    · omega
  have hno2 : ∀ j, j < (all ++ piece).length - mx → ¬ BeginP stops ((all ++ piece).drop j) := fun j hj hB => by
    by_cases hjp : pre.length ≤ j
    · have e : (all ++ piece).drop j = rp.drop (j - pre.length) := by rw [hap, List.drop_append_of_le_length' hjp]
      rw [e] at hB
      obtain ⟨m, hm⟩ : ∃ m, m = rp.length - (j - pre.length) := ⟨_, rfl⟩
      have e2 : rp.drop (j - pre.length) = rp.drop (rp.length - m) := by congr 1; omega
      rw [e2] at hB
      rcases hB with hB | ⟨x, hx, g1, g2⟩
      · have := half_le hB
        rw [List.length_drop] at this
        exact hh.2 m (by omega) (by omega) (by omega) hB
      · obtain ⟨i, hi, rfl⟩ := List.getElem_of_mem hx
        rw [List.length_drop, show rp.length - (rp.length - m) = m by omega] at g1 g2
        have := hb.2 m ⟨by omega, i, hi, by rw [List.getD_eq_getElem?_getD, List.getElem?_eq_getElem hi]; exact g1, by omega, by
          rw [List.getD_eq_getElem?_getD, List.getElem?_eq_getElem hi, Option.getD_some, g2]
          exact endsW_suf.2 ⟨rp.take (rp.length - m), (List.take_append_drop _ _).symm⟩⟩
        omega
    · have e : (all ++ piece).drop j = pre.drop j ++ rp := by rw [hap, List.drop_append_of_le_length (by omega)]
      rw [e, hrp] at hB
      exact h.begins hok hall (r := pre.take j) (q := pre.drop j) (List.take_append_drop _ _).symm (by rw [List.length_drop]; omega) hB
  have hA : heldAt stops (all ++ piece) = (all ++ piece).length - mx := by
    refine fst_of (by omega) (by omega) (fun j _ hj => hno2 j hj) (fun h0 => ?_)
    have e : (all ++ piece).drop ((all ++ piece).length - mx) = rp.drop (rp.length - mx) := by
      rw [hap, List.drop_append_of_le_length' (by rw [List.length_append]; omega)]
      congr 1
      rw [List.length_append]; omega
    rw [e]
    exact hbeg (by omega)
  have hdr : rp.drop (rp.length - mx) = held stops (all ++ piece) := by
    unfold held
    rw [hA, hap, List.drop_append_of_le_length' (by rw [List.length_append]; omega)]
    congr 1
    rw [List.length_append]; omega
  refine ⟨hM, hT, by rw [held_len, hA]; omega, ⟨hno', hdr, ?_⟩⟩
  rw [List.length_drop, hl, show pre.length + rp.length - (rp.length - (rp.length - mx)) = pre.length + (rp.length - mx) by omega, hap, List.take_append, List.take_of_length_le (l := pre) (by omega), show pre.length + (rp.length - mx) - pre.length = rp.length - mx by omega, hout]
  refine (clean_app (hbord _ ?_)).symm
  by_cases hk0 : rp.length - mx = 0
  · exact .inl (by rw [hk0, List.take_zero])
  · by_cases hr0 : raw = []
    · exact .inr (.inl hr0)
    · have := List.length_pos_iff.2 hr0
      refine .inr (.inr ?_)
      rw [List.getD_eq_getElem?_getD, List.getElem?_take, if_pos (by omega), hrp, List.getElem?_append_left this, List.getD_eq_getElem?_getD]
/-- the end -/
theorem Live.ends {stops : List (List UInt8)} (hok : ∀ x ∈ stops, okStop x) {all raw out : List UInt8} (h : Live stops all raw out) : clean all = out ++ clean raw := by
  obtain ⟨hall, _⟩ := h.split
  have hb := h.border hok (y := raw) (.inr (.inr rfl))
  have hout := h.out
  generalize all.take (all.length - raw.length) = pre at *
  rw [hall, clean_app hb, hout]
theorem live0 {stops : List (List UInt8)} (hok : ∀ x ∈ stops, okStop x) : Live stops [] [] [] := by
  refine ⟨fun n _ => (stp_neg _).2 fun j hj he => ?_, ?_, ?_⟩
  · have := (hok _ (getD_mem' hj)).1
    have h1 := he.1
    rw [List.take_nil, List.length_nil] at h1
    exact this (List.eq_nil_of_length_eq_zero (by omega))
  · unfold held; rw [List.drop_nil]
  · simp [clean_nil]
end Go.Wk.YtpnhfkmgnkdleaaDoor
