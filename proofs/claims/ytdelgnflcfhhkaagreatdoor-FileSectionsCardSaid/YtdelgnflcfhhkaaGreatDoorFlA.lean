/-
  Chapter 17: readers of a file, in plain.
-/
import Derived.Test.YtdelgnflcfhhkaaGreatDoorPWb
import Derived.Test.YtdelgnflcfhhkaaGreatDoorPShR
set_option linter.unusedVariables false
namespace Go.Wk.YtdelgnflcfhhkaaGreatDoor
open Go Go.Wk Go.Proofs

/-- where a reader of a file stands, and what was wrong first -/
structure Sc where
  i : Nat
  e : Int
/-- a reader -/
def Rdr (α : Type) : Type := List UInt8 → Sc → Sc × α
def Rdr.ret {α : Type} (a : α) : Rdr α := fun _ x => (x, a)
def Rdr.bind {α β : Type} (r : Rdr α) (f : α → Rdr β) : Rdr β := fun t x => f (r t x).2 t (r t x).1
structure Good {α : Type} (r : Rdr α) : Prop where
  le : ∀ t x, x.i ≤ t.length → (r t x).1.i ≤ t.length
  mono : ∀ t x, x.i ≤ (r t x).1.i
  stick : ∀ t x, x.e ≠ 0 → (r t x).1 = x
  ext : ∀ t u x, x.i ≤ t.length → (r t x).1.e = 0 → r (t ++ u) x = r t x
  shift : ∀ (p t : List UInt8) (i : Nat) (e : Int), r (p ++ t) ⟨p.length + i, e⟩ = (⟨p.length + (r t ⟨i, e⟩).1.i, (r t ⟨i, e⟩).1.e⟩, (r t ⟨i, e⟩).2)
section
variable {α β : Type}
theorem Good.e0 {r : Rdr α} (h : Good r) {t : List UInt8} {x : Sc} (he : (r t x).1.e = 0) : x.e = 0 := by
  by_cases c : x.e = 0
  · exact c
  · rw [h.stick t x c] at he; exact he
theorem good_ret (a : α) : Good (Rdr.ret a) := ⟨fun t x h => h, fun t x => Nat.le_refl _, fun t x h => rfl, fun t u x h1 h2 => rfl, fun p t i e => rfl⟩
theorem good_bind {r : Rdr α} {f : α → Rdr β} (hr : Good r) (hf : ∀ a, Good (f a)) : Good (r.bind f) := by
  refine ⟨fun t x h => (hf _).le t _ (hr.le t x h), fun t x => Nat.le_trans (hr.mono t x) ((hf _).mono t _), fun t x h => ?_, fun t u x h1 h2 => ?_, fun p t i e => ?_⟩
  · have h1 := hr.stick t x h
    show (f (r t x).2 t (r t x).1).1 = x
    rw [h1]; exact (hf _).stick t x h
  · have h2 : (f (r t x).2 t (r t x).1).1.e = 0 := h2
    have h3 := (hf _).e0 h2
    show f (r (t ++ u) x).2 (t ++ u) (r (t ++ u) x).1 = f (r t x).2 t (r t x).1
    rw [hr.ext t u x h1 h3]
    exact (hf _).ext t u _ (hr.le t x h1) h2
  · show f (r (p ++ t) ⟨p.length + i, e⟩).2 (p ++ t) (r (p ++ t) ⟨p.length + i, e⟩).1 = _
    rw [hr.shift p t i e]
    exact (hf _).shift p t _ _
end
/-- the readers -/
def rNum (b : Int) : Rdr Int := fun t x => if x.e = 0 then (⟨rnA t x.i b, rnE t x.i b⟩, rnV t x.i b) else (x, 0)
def rRaw (n : Int) : Rdr (List UInt8) := fun t x => if x.e = 0 then (⟨rrA t x.i n, rrE t x.i n⟩, rrV t x.i n) else (x, [])
def rRow (n : Int) : Rdr (List Int8) := fun t x => if x.e = 0 then (⟨rrA t x.i n, rrE t x.i n⟩, (rrV t x.i n).map UInt8.toInt8) else (x, [])
def rChk (p : Bool) (e : Int) : Rdr Unit := fun t x => (if x.e = 0 then if p then x else ⟨x.i, e⟩ else x, ())
def rIf {α : Type} (a : α) (r : Rdr α) : Rdr α := fun t x => if x.e = 0 then r t x else (x, a)
def rRep {α : Type} (r : Rdr α) : Nat → Rdr (List α)
  | 0 => Rdr.ret []
  | k + 1 => (rRep r k).bind fun l => r.bind fun a => Rdr.ret (l ++ [a])
def rRepG {α : Type} (r : Rdr α) : Nat → Rdr (List α)
  | 0 => Rdr.ret []
  | k + 1 => (rRepG r k).bind fun l => rIf l (r.bind fun a => Rdr.ret (l ++ [a]))
theorem cut_app {t u : List UInt8} {i k : Nat} (h : i + k ≤ t.length) : cut (t ++ u) i k = cut t i k := by
  unfold cut
  rw [List.drop_append_of_le_length (by omega), List.take_append_of_le_length (by rw [List.length_drop]; omega)]
theorem cut_shift (p t : List UInt8) (i k : Nat) : cut (p ++ t) (p.length + i) k = cut t i k := by
  unfold cut
  rw [← List.drop_drop, List.drop_left]
theorem rnE_ok {s : List UInt8} {i : Nat} {b : Int} (h : rnE s i b = 0) : (b = 1 ∨ b = 2 ∨ b = 4 ∨ b = 8) ∧ ¬ (s.length : Int) - i < b ∧ ¬ 9223372036854775807 < leN (cut s i b.toNat) := by
  unfold rnE at h
  split at h
  · rename_i h1
    split at h
    · cases h
    · rename_i h2
      split at h
      · cases h
      · rename_i h3; exact ⟨h1, h2, h3⟩
  · cases h
theorem rnE_app {t u : List UInt8} {i : Nat} {b : Int} (hi : i ≤ t.length) (h : rnE t i b = 0) : rnE (t ++ u) i b = 0 ∧ rnV (t ++ u) i b = rnV t i b ∧ rnA (t ++ u) i b = rnA t i b := by
  obtain ⟨h1, h2, h3⟩ := rnE_ok h
  have hc : cut (t ++ u) i b.toNat = cut t i b.toNat := cut_app (by omega)
  have h0 : rnE (t ++ u) i b = 0 := by
    unfold rnE
    rw [if_pos h1, if_neg (by rw [List.length_append]; omega), hc, if_neg h3]
  unfold rnV rnA
  rw [h0, h, hc]
  exact ⟨rfl, rfl, rfl⟩
theorem rnE_shift (p t : List UInt8) (i : Nat) (b : Int) : rnE (p ++ t) (p.length + i) b = rnE t i b ∧ rnV (p ++ t) (p.length + i) b = rnV t i b ∧ rnA (p ++ t) (p.length + i) b = p.length + rnA t i b := by
  have h0 : rnE (p ++ t) (p.length + i) b = rnE t i b := by
    unfold rnE
    rw [cut_shift, show (((p ++ t).length : Nat) : Int) - ((p.length + i : Nat) : Int) = (t.length : Int) - i by rw [List.length_append]; omega]
  refine ⟨h0, ?_, ?_⟩
  · unfold rnV; rw [h0, cut_shift]
  · unfold rnA; rw [h0]; split <;> omega
theorem rrE_ok {s : List UInt8} {i : Nat} {n : Int} (h : rrE s i n = 0) : 0 ≤ n ∧ n ≤ (s.length : Int) - i := by
  unfold rrE at h
  split at h
  · cases h
  · split at h
    · cases h
    · omega
theorem rrE_app {t u : List UInt8} {i : Nat} {n : Int} (hi : i ≤ t.length) (h : rrE t i n = 0) : rrE (t ++ u) i n = 0 ∧ rrV (t ++ u) i n = rrV t i n ∧ rrA (t ++ u) i n = rrA t i n := by
  obtain ⟨h1, h2⟩ := rrE_ok h
  have h0 : rrE (t ++ u) i n = 0 := by
    unfold rrE
    rw [if_neg (by omega), if_neg (by rw [List.length_append]; omega)]
  unfold rrV rrA
  rw [h0, h, cut_app (by omega)]
  exact ⟨rfl, rfl, rfl⟩
theorem rrE_shift (p t : List UInt8) (i : Nat) (n : Int) : rrE (p ++ t) (p.length + i) n = rrE t i n ∧ rrV (p ++ t) (p.length + i) n = rrV t i n ∧ rrA (p ++ t) (p.length + i) n = p.length + rrA t i n := by
  have h0 : rrE (p ++ t) (p.length + i) n = rrE t i n := by
    unfold rrE
    rw [show (((p ++ t).length : Nat) : Int) - ((p.length + i : Nat) : Int) = (t.length : Int) - i by rw [List.length_append]; omega]
  refine ⟨h0, ?_, ?_⟩
  · unfold rrV; rw [h0, cut_shift]
  · unfold rrA; rw [h0]; split <;> omega
theorem good_num (b : Int) : Good (rNum b) := by
  refine ⟨fun t x h => ?_, fun t x => ?_, fun t x h => ?_, fun t u x h1 h2 => ?_, fun p t i e => ?_⟩
  · unfold rNum; split
    · exact rnA_le h
    · exact h
  · unfold rNum; split
    · show x.i ≤ rnA t x.i b
      unfold rnA; split <;> omega
    · exact Nat.le_refl _
  · unfold rNum; rw [if_neg h]
  · unfold rNum at h2 ⊢
    split at h2
    · rename_i h0
      obtain ⟨a, b, c⟩ := rnE_app (u := u) h1 h2
      rw [if_pos h0, if_pos h0, a, b, c]
      have h2 : rnE t x.i _ = 0 := h2
      rw [h2]
    · rename_i h0; exact absurd h2 h0
  · unfold rNum
    obtain ⟨a, b, c⟩ := rnE_shift p t i b
    by_cases h : e = 0
    · rw [if_pos h, if_pos h, a, b, c]
    · rw [if_neg h, if_neg h]
theorem good_raw (n : Int) : Good (rRaw n) := by
  refine ⟨fun t x h => ?_, fun t x => ?_, fun t x h => ?_, fun t u x h1 h2 => ?_, fun p t i e => ?_⟩
  · unfold rRaw; split
    · exact rrA_le h
    · exact h
  · unfold rRaw; split
    · show x.i ≤ rrA t x.i n
      unfold rrA; split <;> omega
    · exact Nat.le_refl _
  · unfold rRaw; rw [if_neg h]
  · unfold rRaw at h2 ⊢
    split at h2
    · rename_i h0
      obtain ⟨a, b, c⟩ := rrE_app (u := u) h1 h2
      rw [if_pos h0, if_pos h0, a, b, c]
      have h2 : rrE t x.i _ = 0 := h2
      rw [h2]
    · rename_i h0; exact absurd h2 h0
  · unfold rRaw
    obtain ⟨a, b, c⟩ := rrE_shift p t i n
    by_cases h : e = 0
    · rw [if_pos h, if_pos h, a, b, c]
    · rw [if_neg h, if_neg h]
def Rdr.map {α β : Type} (f : α → β) (r : Rdr α) : Rdr β := fun t x => ((r t x).1, f (r t x).2)
theorem good_map {α β : Type} {r : Rdr α} (f : α → β) (h : Good r) : Good (r.map f) :=
  ⟨h.le, h.mono, h.stick, fun t u x h1 h2 => by show ((r (t ++ u) x).1, _) = ((r t x).1, _); rw [h.ext t u x h1 h2], fun p t i e => by show ((r (p ++ t) _).1, _) = _; rw [h.shift p t i e]; rfl⟩
theorem rRow_raw (n : Int) : rRow n = (rRaw n).map (fun l => l.map UInt8.toInt8) := by
  funext t x
  by_cases h : x.e = 0
  · simp only [rRow, rRaw, Rdr.map, if_pos h]
  · simp only [rRow, rRaw, Rdr.map, if_neg h, List.map_nil]
theorem good_row (n : Int) : Good (rRow n) := by rw [rRow_raw]; exact good_map _ (good_raw n)
theorem good_chk (p : Bool) (e : Int) : Good (rChk p e) := by
  refine ⟨fun t x h => ?_, fun t x => ?_, fun t x h => ?_, fun t u x h1 h2 => rfl, fun q t i e => ?_⟩
  · unfold rChk; (repeat' split) <;> exact h
  · unfold rChk; (repeat' split) <;> exact Nat.le_refl _
  · unfold rChk; rw [if_neg h]
  · unfold rChk
    by_cases h : e = 0
    · rw [if_pos h, if_pos h]; split <;> rfl
    · rw [if_neg h, if_neg h]
theorem good_if {α : Type} (a : α) {r : Rdr α} (h : Good r) : Good (rIf a r) := by
  refine ⟨fun t x h1 => ?_, fun t x => ?_, fun t x h1 => ?_, fun t u x h1 h2 => ?_, fun p t i e => ?_⟩
  · unfold rIf; split
    · exact h.le t x h1
    · exact h1
  · unfold rIf; split
    · exact h.mono t x
    · exact Nat.le_refl _
  · unfold rIf; rw [if_neg h1]
  · unfold rIf at h2 ⊢
    split at h2
    · rename_i h0
      rw [if_pos h0, if_pos h0]; exact h.ext t u x h1 h2
    · rename_i h0; exact absurd h2 h0
  · unfold rIf
    by_cases c : e = 0
    · rw [if_pos c, if_pos c]; exact h.shift p t i e
    · rw [if_neg c, if_neg c]
theorem good_rep {α : Type} {r : Rdr α} (h : Good r) : ∀ k, Good (rRep r k)
  | 0 => good_ret _
  | k + 1 => good_bind (good_rep h k) fun l => good_bind h fun a => good_ret _
theorem good_repG {α : Type} {r : Rdr α} (h : Good r) : ∀ k, Good (rRepG r k)
  | 0 => good_ret _
  | k + 1 => good_bind (good_repG h k) fun l => good_if _ (good_bind h fun a => good_ret _)
theorem rev_ind {α : Type} {P : List α → Prop} (h0 : P []) (h1 : ∀ l a, P l → P (l ++ [a])) (l : List α) : P l := by
  have h : ∀ l : List α, P l.reverse := fun l => by
    induction l with
    | nil => exact h0
    | cons a l ih => rw [List.reverse_cons]; exact h1 _ _ ih
  have := h l.reverse
  rwa [List.reverse_reverse] at this
/-- what is read back -/
def Back {α : Type} (r : Rdr α) (b : List UInt8) (a : α) : Prop := ∀ p q, r (p ++ (b ++ q)) ⟨p.length, 0⟩ = (⟨(p ++ b).length, 0⟩, a)
section
variable {α β : Type}
theorem bk_ret (a : α) : Back (Rdr.ret a) [] a := fun p q => by rw [List.append_nil]; rfl
theorem bk_bind {r : Rdr α} {f : α → Rdr β} {b c : List UInt8} {a : α} {d : β} (h1 : Back r b a) (h2 : Back (f a) c d) : Back (r.bind f) (b ++ c) d := fun p q => by
  show f (r _ _).2 _ (r _ _).1 = _
  rw [List.append_assoc b c q, h1 p (c ++ q)]
  have := h2 (p ++ b) q
  rw [List.append_assoc p b, List.append_assoc p b c] at this
  exact this
theorem bk_nil {r : Rdr α} {f : α → Rdr β} {c : List UInt8} {a : α} {d : β} (h1 : Back r [] a) (h2 : Back (f a) c d) : Back (r.bind f) c d := bk_bind h1 h2
theorem bk_last {r : Rdr α} {f : α → β} {b : List UInt8} {a : α} (h1 : Back r b a) : Back (r.bind fun a => Rdr.ret (f a)) b (f a) := by
  have := bk_bind (f := fun a => Rdr.ret (f a)) h1 (bk_ret (f a))
  rwa [List.append_nil] at this
theorem bk_num {n b : Int} (h : numE n b = 0) (hn : n ≤ 9223372036854775807) : Back (rNum b) (numB n b) n := fun p q => by
  obtain ⟨h1, h2, h3⟩ := back_num p q h hn rfl
  unfold rNum
  rw [if_pos rfl, h1, h2, h3, List.length_append]
theorem bk_raw (l : List UInt8) : Back (rRaw l.length) l l := fun p q => by
  obtain ⟨h1, h2, h3⟩ := back_raw p l q rfl rfl
  unfold rRaw
  rw [if_pos rfl, h1, h2, h3, List.length_append]
theorem bk_row (l : List Int8) : Back (rRow l.length) (wrwB l) l := fun p q => by
  rw [rRow_raw]
  have h := bk_raw (wrwB l) p q
  rw [show (wrwB l).length = l.length from List.length_map _] at h
  show ((rRaw _ _ _).1, _) = _
  rw [h]
  show (_, List.map UInt8.toInt8 (wrwB l)) = _
  rw [show List.map UInt8.toInt8 (wrwB l) = l by unfold wrwB; rw [List.map_map]; exact (List.map_congr_left fun x _ => by simp).trans (List.map_id _)]
theorem bk_chk {p : Bool} (e : Int) (h : p = true) : Back (rChk p e) [] () := fun q r => by
  unfold rChk
  rw [if_pos rfl, if_pos h, List.append_nil]
theorem bk_rep {r : Rdr α} {enc : α → List UInt8} : ∀ l : List α, (∀ a ∈ l, Back r (enc a) a) → Back (rRep r l.length) (l.flatMap enc) l := by
  refine rev_ind (fun _ => bk_ret _) fun l a ih h => ?_
  · rw [List.length_append, List.length_singleton, List.flatMap_append]
    refine bk_bind (ih fun x hx => h x (List.mem_append.2 (.inl hx))) ?_
    rw [show [a].flatMap enc = enc a by simp]
    exact bk_last (f := fun a => l ++ [a]) (h a (by simp))
theorem bk_if {r : Rdr α} {b : List UInt8} {a c : α} (h : Back r b a) : Back (rIf c r) b a := fun p q => by
  unfold rIf; rw [if_pos rfl]; exact h p q
theorem bk_repG {r : Rdr α} {enc : α → List UInt8} : ∀ l : List α, (∀ a ∈ l, Back r (enc a) a) → Back (rRepG r l.length) (l.flatMap enc) l := by
  refine rev_ind (fun _ => bk_ret _) fun l a ih h => ?_
  · rw [List.length_append, List.length_singleton, List.flatMap_append]
    refine bk_bind (ih fun x hx => h x (List.mem_append.2 (.inl hx))) ?_
    rw [show [a].flatMap enc = enc a by simp]
    exact bk_if (bk_last (f := fun a => l ++ [a]) (h a (by simp)))
/-- what was read: the bytes -/
def Rev (r : Rdr α) (P : List UInt8 → α → Prop) : Prop := ∀ t x, x.i ≤ t.length → (r t x).1.e = 0 → P (cut t x.i ((r t x).1.i - x.i)) (r t x).2
theorem cut_cat {t : List UInt8} {i j k : Nat} (h : i ≤ j) (h2 : j ≤ k) : cut t i (k - i) = cut t i (j - i) ++ cut t j (k - j) := by
  unfold cut
  rw [show k - i = (j - i) + (k - j) by omega, List.take_add, List.drop_drop, show i + (j - i) = j by omega]
theorem rev_ret (a : α) : Rev (Rdr.ret a) fun b c => b = [] ∧ c = a := fun t x h1 h2 => by
  refine ⟨?_, rfl⟩
  show cut t x.i (x.i - x.i) = []
  rw [Nat.sub_self]; simp [cut]
theorem rev_bind {r : Rdr α} {f : α → Rdr β} {P : List UInt8 → α → Prop} {Q : α → List UInt8 → β → Prop} {S : List UInt8 → β → Prop} (gr : Good r) (gf : ∀ a, Good (f a)) (h1 : Rev r P) (h2 : ∀ a, Rev (f a) (Q a)) (h3 : ∀ a b c d, P b a → Q a c d → S (b ++ c) d) : Rev (r.bind f) S := fun t x hx he => by
  have he : (f (r t x).2 t (r t x).1).1.e = 0 := he
  have e1 := (gf _).e0 he
  have a1 := h1 t x hx e1
  have a2 := h2 _ t _ (gr.le t x hx) he
  have := h3 _ _ _ _ a1 a2
  rw [← cut_cat (gr.mono t x) ((gf _).mono t _)] at this
  exact this
theorem Rev.mono {r : Rdr α} {P Q : List UInt8 → α → Prop} (h : Rev r P) (hp : ∀ b a, P b a → Q b a) : Rev r Q := fun t x h1 h2 => hp _ _ (h t x h1 h2)
end
end Go.Wk.YtdelgnflcfhhkaaGreatDoor
