/-
  The walks of chapter 14: a rune appended; the document's letter and encoded.
-/
import Derived.Test.YtpnhfkmgnkdleaaDoorSqA
import Derived.Test.YtpnhfkmgnkdleaaDoorSqG
set_option linter.unusedVariables false
namespace Go.Wk.YtpnhfkmgnkdleaaDoor
open Go Go.Wk Go.Proofs

/-- a row of bytes of one's own, in a block from B on -/
abbrev Ob (B : Nat) (w : World) (v : Value) (bs : List UInt8) : Prop := w.ownsRow B 5 1 v bs.length (bs.map bv)
theorem Ob.own {B : Nat} {w : World} {v : Value} {bs : List UInt8} (h : Ob B w v bs) : Own w 5 1 v bs.length (bs.map bv) := by
  refine ⟨h.1, ?_⟩
  rcases h.2 with h4 | ⟨g, cp, cur, e, hg, r⟩
  · exact .inl h4
  · exact .inr ⟨g, cp, cur, e, Nat.zero_le _, r⟩
theorem Ob.ge {B : Nat} {w : World} {v : Value} {bs : List UInt8} (h : Ob B w v bs) {g : Nat} (hg : v.ownBlock = some g) : B ≤ g := by
  rcases h.2 with ⟨e, _⟩ | ⟨g', cp, cur, e, hg', r⟩
  · rw [e] at hg; cases hg
  · rw [e] at hg; cases hg; exact hg'
theorem Ob.of {B : Nat} {w : World} {v : Value} {bs : List UInt8} (h : Own w 5 1 v bs.length (bs.map bv)) (hg : ∀ g, v.ownBlock = some g → B ≤ g) : Ob B w v bs := by
  refine ⟨h.1, ?_⟩
  rcases h.2 with h4 | ⟨g, cp, cur, e, _, r⟩
  · exact .inl h4
  · exact .inr ⟨g, cp, cur, e, hg g (by rw [e]; rfl), r⟩
/-- the bytes of a character -/
def rb (r : Int) : List UInt8 := (Lib.encodeRuneZ r).map fun x => UInt8.ofNat x.toNat
theorem rb_cells (r : Int) : Lib.runeCells r = (rb r).map bv := by
  unfold Lib.runeCells rb
  rw [List.map_map]
  refine List.map_congr_left fun x hx => ?_
  obtain ⟨h0, h1⟩ := Lib.encodeRuneZ_byte r x hx
  show Value.int .u8 x = Value.int .u8 ((UInt8.ofNat x.toNat).toNat : Int)
  congr 1
  rw [UInt8.toNat_ofNat']
  omega
theorem rb_len (r : Int) : (rb r).length ≤ 4 := by
  have h := (Lib.runeCells_le r).2
  rw [rb_cells, List.length_map] at h; exact h
theorem apRune (B : Nat) (v : Value) (bs : List UInt8) (r : Int) (w : World) (hr0 : -2147483648 ≤ r) (hr1 : r ≤ 2147483647) (h : Ob B w v bs) (hl : bs.length ≤ 140737488355000) (hB : B ≤ w.heap.size) :
    CallsF Tryd.prog 100 [v, .int .i32 r] w fun u w' => Ob B w' u (bs ++ rb r) ∧ Fr (fun b => v.ownBlock = some b) w w' := by
  refine ⟨⟨_, Tryd.func100, by decide, rfl⟩, ?_⟩
  refine (Go.Proofs.Tryd.utf8_AppendRune_plain B v bs.length (bs.map bv) r hr0 hr1 w h (by omega) hB).mono fun e w' hh => ?_
  obtain ⟨u, rfl, ho, o, hg⟩ := hh
  refine ⟨u, rfl, ?_, ?_⟩
  · rw [rb_cells, List.length_map, ← List.length_append, ← List.map_append] at ho
    exact ho
  · have h1 := Fr.of_grown hg
    have h2 : Fr no w (w.alloc o) := Fr.alloc w o
    exact h2.tr0 h1

/-- what a letter behind a backslash says; 0: nothing -/
def ltr (c : UInt8) : UInt8 := if c = 34 ∨ c = 92 ∨ c = 47 then c else if c = 98 then 8 else if c = 102 then 12 else if c = 110 then 10 else if c = 114 then 13 else if c = 116 then 9 else 0
abbrev ltrs : List UInt8 := [98, 116, 110, 102, 114, 34, 92, 47]
abbrev ltrv : List UInt8 := [8, 9, 10, 12, 13, 34, 92, 47]
theorem ltr_all : ∀ n : Fin 256, (Lib.indexByte ltrs (UInt8.ofNat n.val) < 0 ↔ ltr (UInt8.ofNat n.val) = 0) ∧ (0 ≤ Lib.indexByte ltrs (UInt8.ofNat n.val) → Lib.indexByte ltrs (UInt8.ofNat n.val) < 8 ∧ ltrv.getD (Lib.indexByte ltrs (UInt8.ofNat n.val)).toNat 0 = ltr (UInt8.ofNat n.val)) := by decide +kernel
theorem ltr_idx (c : UInt8) : (Lib.indexByte ltrs c < 0 ↔ ltr c = 0) ∧ (0 ≤ Lib.indexByte ltrs c → Lib.indexByte ltrs c < 8 ∧ ltrv.getD (Lib.indexByte ltrs c).toNat 0 = ltr c) := by
  have h := ltr_all ⟨c.toNat, c.toNat_lt⟩
  simpa using h
/-- what stands behind a backslash: right?, its bytes, the place -/
def escF (t : List UInt8) (q : Nat) : Bool × List UInt8 × Nat :=
  if ¬ q < t.length then (false, [], q)
  else if ltr (t.getD q 0) ≠ 0 then (true, [ltr (t.getD q 0)], q + 1)
  else if t.getD q 0 ≠ 117 then (false, [], q)
  else if (four t false (q + 1)).1 = false then (false, [], (four t false (q + 1)).2.2)
  else if 55296 ≤ (four t false (q + 1)).2.1 ∧ (four t false (q + 1)).2.1 < 56320 then
    (if ¬ (q + 5 < t.length ∧ t.getD (q + 5) 0 = 92) then (false, [], q + 5)
     else if ¬ (q + 6 < t.length ∧ t.getD (q + 6) 0 = 117) then (false, [], q + 6)
     else if (four t true (q + 7)).1 = false then (false, [], (four t true (q + 7)).2.2)
     else (true, rb (65536 + 1024 * ((four t false (q + 1)).2.1 - 55296) + (four t true (q + 7)).2.1 - 56320), q + 11))
  else (true, rb (four t false (q + 1)).2.1, q + 5)
/-- four right digits are four -/
theorem four_at {t : List UInt8} {low : Bool} : ∀ (f k : Nat) (n : Int) (q : Nat), (fourF t low f k n q).1 = true → (fourF t low f k n q).2.2 = q + f
  | 0, _, _, _, _ => rfl
  | f + 1, k, n, q, h => by
    by_cases hb : fBad t low k n q
    · rw [fourF_bad hb] at h; cases h
    · rw [fourF_go hb] at h ⊢
      rw [four_at f _ _ _ h]; omega
theorem four_le {t : List UInt8} {low : Bool} : ∀ (f k : Nat) (n : Int) (q : Nat), q ≤ t.length → (fourF t low f k n q).2.2 ≤ t.length
  | 0, _, _, _, h => h
  | f + 1, k, n, q, h => by
    by_cases hb : fBad t low k n q
    · rw [fourF_bad hb]; exact h
    · rw [fourF_go hb]
      have : q < t.length := Decidable.not_not.1 fun z => hb (.inl z)
      exact four_le f _ _ _ (by omega)
theorem hx_good {t : List UInt8} {low : Bool} {k : Nat} {n : Int} {q : Nat} (h : ¬ fBad t low k n q) : 0 ≤ hx (t.getD q 0) ∧ hx (t.getD q 0) ≤ 15 := by
  have := hx_le (t.getD q 0)
  have h2 : ¬ hx (t.getD q 0) < 0 := fun z => h (.inr (.inl z))
  omega
theorem four_bd {t : List UInt8} {low : Bool} {q : Nat} (h : (four t low q).1 = true) : 0 ≤ (four t low q).2.1 ∧ (four t low q).2.1 ≤ 65535 := by
  unfold four at h ⊢
  by_cases b0 : fBad t low 0 0 q
  · rw [fourF_bad b0] at h; cases h
  have g0 := hx_good b0
  rw [fourF_go b0] at h ⊢
  by_cases b1 : fBad t low (0 + 1) (16 * 0 + hx (t.getD q 0)) (q + 1)
  · rw [fourF_bad b1] at h; cases h
  have g1 := hx_good b1
  rw [fourF_go b1] at h ⊢
  generalize hx (t.getD q 0) = x0 at *
  generalize hx (t.getD (q + 1) 0) = x1 at *
  by_cases b2 : fBad t low (0 + 1 + 1) (16 * (16 * 0 + x0) + x1) (q + 1 + 1)
  · rw [fourF_bad b2] at h; cases h
  have g2 := hx_good b2
  rw [fourF_go b2] at h ⊢
  generalize hx (t.getD (q + 1 + 1) 0) = x2 at *
  by_cases b3 : fBad t low (0 + 1 + 1 + 1) (16 * (16 * (16 * 0 + x0) + x1) + x2) (q + 1 + 1 + 1)
  · rw [fourF_bad b3] at h; cases h
  have g3 := hx_good b3
  rw [fourF_go b3]
  generalize hx (t.getD (q + 1 + 1 + 1) 0) = x3 at *
  show 0 ≤ 16 * (16 * (16 * (16 * 0 + x0) + x1) + x2) + x3 ∧ 16 * (16 * (16 * (16 * 0 + x0) + x1) + x2) + x3 ≤ 65535
  omega
end Go.Wk.YtpnhfkmgnkdleaaDoor
