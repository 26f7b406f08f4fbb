/-
  WireTwo: two writers and two readers in turns.
-/
import Derived.Test.YtihjpjpellagiaaWireQ
set_option linter.unusedVariables false
namespace Go.Wk.Ytihjpjpellagiaa
open Go Go.Wk Go.Proofs

def rawB (l : List OpV) : List UInt8 := l.flatMap OpV.text
theorem rawB_take {ops : List OpV} {k : Nat} {x : OpV} (hx : ops[k]? = some x) : rawB (ops.take (k + 1)) = rawB (ops.take k) ++ x.text := by
  obtain ⟨h1, h2⟩ := List.getElem?_eq_some_iff.1 hx
  rw [List.take_succ_eq_append_getElem h1, rawB, List.flatMap_append, h2]
  simp [rawB]
theorem rawB_len : ∀ l : List OpV, (rawB l).length ≤ volB l
  | [] => by simp [rawB]
  | x :: l => by
    have := rawB_len l
    simp only [rawB, volB, OpV.vol, List.flatMap_cons, List.length_append, List.map_cons, List.sum_cons] at *
    omega
theorem take_over {ops : List OpV} {k : Nat} (h : ops.length ≤ k) : ops.take (k + 1) = ops.take k := by
  rw [List.take_of_length_le h, List.take_of_length_le (by omega)]

/-- where the six things of WireTwo lie -/
structure Six where
  (pa pb px py qm qn B : Nat)
def Six.ok (z : Six) (W : World) : Prop :=
  (W.heap.size ≤ z.pa ∧ z.pa < z.B) ∧ (W.heap.size ≤ z.pb ∧ z.pb < z.B) ∧ (W.heap.size ≤ z.px ∧ z.px < z.B) ∧ (W.heap.size ≤ z.py ∧ z.py < z.B) ∧ (W.heap.size ≤ z.qm ∧ z.qm < z.B) ∧ (W.heap.size ≤ z.qn ∧ z.qn < z.B) ∧
  (z.pa ≠ z.pb ∧ z.pa ≠ z.px ∧ z.pa ≠ z.py ∧ z.pa ≠ z.qm ∧ z.pa ≠ z.qn) ∧ (z.pb ≠ z.px ∧ z.pb ≠ z.py ∧ z.pb ≠ z.qm ∧ z.pb ≠ z.qn) ∧ (z.px ≠ z.py ∧ z.px ≠ z.qm ∧ z.px ≠ z.qn) ∧ (z.py ≠ z.qm ∧ z.py ≠ z.qn) ∧ z.qm ≠ z.qn
/-- what lies there -/
def TI (z : Six) (W w : World) (A B : List UInt8) (s t : List UInt8) (i j m n : Nat) : Prop := ∃ va vb, Wr w z.pa va A ∧ Wr w z.pb vb B ∧ Rd w z.px s i ∧ Rd w z.py t j ∧ Blk w z.qm [.string (sOf s), .int .i64 m] 58 ∧ Blk w z.qn [.string (sOf t), .int .i64 n] 58 ∧
  Fr no W w ∧ z.B ≤ w.heap.size ∧ (∀ g, va.ownBlock = some g → z.B ≤ g) ∧ (∀ g, vb.ownBlock = some g → z.B ≤ g) ∧ ∀ g, va.ownBlock = some g → vb.ownBlock ≠ some g
theorem TI.tr {z : Six} {W w w' : World} {A B s t : List UInt8} {i j m n : Nat} (h : TI z W w A B s t i j m n) (hf : Fr no w w') : TI z W w' A B s t i j m n := by
  obtain ⟨va, vb, h1, h2, h3, h4, h5, h6, h7, h8, h9⟩ := h
  exact ⟨va, vb, h1.fr0 hf, h2.fr0 hf, h3.fr0 hf, h4.fr0 hf, h5.fr0 hf, h6.fr0 hf, h7.tr hf, Nat.le_trans h8 hf.size, h9⟩
/-- one writer writes -/
theorem TI.a {z : Six} {W w w' : World} {A B s t A' : List UInt8} {i j m n : Nat} {va vb : Value} (hz : z.ok W) (h1 : Wr w z.pa va A) (h2 : Wr w z.pb vb B) (h3 : Rd w z.px s i) (h4 : Rd w z.py t j) (h5 : Blk w z.qm [.string (sOf s), .int .i64 m] 58) (h6 : Blk w z.qn [.string (sOf t), .int .i64 n] 58)
    (h7 : Fr no W w) (h8 : z.B ≤ w.heap.size) (h9 : ∀ g, va.ownBlock = some g → z.B ≤ g) (h10 : ∀ g, vb.ownBlock = some g → z.B ≤ g) (h11 : ∀ g, va.ownBlock = some g → vb.ownBlock ≠ some g)
    (hr : ∃ v', Wr w' z.pa v' A' ∧ Fr (WS z.pa va) w w' ∧ NB w va v') : TI z W w' A' B s t i j m n := by
  obtain ⟨v', g1, g2, g3⟩ := hr
  obtain ⟨⟨a1, a2⟩, ⟨b1, b2⟩, ⟨c1, c2⟩, ⟨d1, d2⟩, ⟨e1, e2⟩, ⟨f1, f2⟩, ⟨n1, n2, n3, n4, n5⟩, ⟨n6, n7, n8, n9⟩, ⟨n10, n11, n12⟩, ⟨n13, n14⟩, n15⟩ := hz
  have key : ∀ q, q < z.B → q ≠ z.pa → ¬ WS z.pa va q := fun q hq hne hx => by
    rcases hx with hx | hx
    · exact hne hx
    · have := h9 q hx; omega
  refine ⟨v', vb, g1, h2.fr g2 (key _ b2 (Ne.symm n1)) (fun g hg hx => ?_), h3.fr g2 (key _ c2 (Ne.symm n2)), h4.fr g2 (key _ d2 (Ne.symm n3)), h5.fr g2 (key _ e2 (Ne.symm n4)), h6.fr g2 (key _ f2 (Ne.symm n5)),
    h7.trans g2 (fun u hu hx => ?_), Nat.le_trans h8 g2.size, fun g hg => ?_, h10, fun g hg hb => ?_⟩
  · rcases hx with hx | hx
    · have := h10 g hg; omega
    · exact h11 g hx hg
  · rcases hx with hx | hx
    · omega
    · have := h9 u hx; omega
  · rcases g3 g hg with h | h
    · exact h9 g h
    · omega
  · rcases g3 g hg with h | h
    · exact h11 g h hb
    · have := Go.Wk.Own.lt h2.2.1 hb; omega
theorem TI.b {z : Six} {W w w' : World} {A B s t B' : List UInt8} {i j m n : Nat} {va vb : Value} (hz : z.ok W) (h1 : Wr w z.pa va A) (h2 : Wr w z.pb vb B) (h3 : Rd w z.px s i) (h4 : Rd w z.py t j) (h5 : Blk w z.qm [.string (sOf s), .int .i64 m] 58) (h6 : Blk w z.qn [.string (sOf t), .int .i64 n] 58)
    (h7 : Fr no W w) (h8 : z.B ≤ w.heap.size) (h9 : ∀ g, va.ownBlock = some g → z.B ≤ g) (h10 : ∀ g, vb.ownBlock = some g → z.B ≤ g) (h11 : ∀ g, va.ownBlock = some g → vb.ownBlock ≠ some g)
    (hr : ∃ v', Wr w' z.pb v' B' ∧ Fr (WS z.pb vb) w w' ∧ NB w vb v') : TI z W w' A B' s t i j m n := by
  obtain ⟨v', g1, g2, g3⟩ := hr
  obtain ⟨⟨a1, a2⟩, ⟨b1, b2⟩, ⟨c1, c2⟩, ⟨d1, d2⟩, ⟨e1, e2⟩, ⟨f1, f2⟩, ⟨n1, n2, n3, n4, n5⟩, ⟨n6, n7, n8, n9⟩, ⟨n10, n11, n12⟩, ⟨n13, n14⟩, n15⟩ := hz
  have key : ∀ q, q < z.B → q ≠ z.pb → ¬ WS z.pb vb q := fun q hq hne hx => by
    rcases hx with hx | hx
    · exact hne hx
    · have := h10 q hx; omega
  refine ⟨va, v', h1.fr g2 (key _ a2 n1) (fun g hg hx => ?_), g1, h3.fr g2 (key _ c2 (Ne.symm n6)), h4.fr g2 (key _ d2 (Ne.symm n7)), h5.fr g2 (key _ e2 (Ne.symm n8)), h6.fr g2 (key _ f2 (Ne.symm n9)),
    h7.trans g2 (fun u hu hx => ?_), Nat.le_trans h8 g2.size, h9, fun g hg => ?_, fun g hg hb => ?_⟩
  · rcases hx with hx | hx
    · have := h9 g hg; omega
    · exact h11 g hg hx
  · rcases hx with hx | hx
    · omega
    · have := h10 u hx; omega
  · rcases g3 g hg with h | h
    · exact h10 g h
    · omega
  · rcases g3 g hb with h | h
    · exact h11 g hg h
    · have := Go.Wk.Own.lt h1.2.1 hg; omega
/-- one of the four blocks that are read is set -/
theorem TI.set {z : Six} {W w w' : World} {A B s t : List UInt8} {i j m n i' j' m' n' : Nat} {q : Nat} (hz : z.ok W) (h : TI z W w A B s t i j m n) (hq : q < z.B) (ha : q ≠ z.pa) (hb : q ≠ z.pb) (hW : W.heap.size ≤ q) (hf : Fr (fun c => c = q) w w')
    (h3 : Rd w' z.px s i') (h4 : Rd w' z.py t j') (h5 : Blk w' z.qm [.string (sOf s), .int .i64 m'] 58) (h6 : Blk w' z.qn [.string (sOf t), .int .i64 n'] 58) : TI z W w' A B s t i' j' m' n' := by
  obtain ⟨va, vb, g1, g2, _, _, _, _, g7, g8, g9, g10, g11⟩ := h
  exact ⟨va, vb, g1.fr hf (Ne.symm ha) (fun g hg e => by have := g9 g hg; omega), g2.fr hf (Ne.symm hb) (fun g hg e => by have := g10 g hg; omega), h3, h4, h5, h6, g7.trans hf (fun u hu e => by omega), Nat.le_trans g8 hf.size, g9, g10, g11⟩
end Go.Wk.Ytihjpjpellagiaa
