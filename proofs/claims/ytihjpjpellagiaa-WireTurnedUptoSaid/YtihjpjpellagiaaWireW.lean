/-
  Every call on a writer, in every order.
-/
import Derived.Test.YtihjpjpellagiaaWireK
import Derived.Test.YtihjpjpellagiaaWireR
import Derived.Test.YtihjpjpellagiaaAwake
set_option linter.unusedVariables false
namespace Go.Wk.Ytihjpjpellagiaa
open Go Go.Wk Go.Proofs

/-- what one op writes -/
def opB (x : OpV) : List UInt8 := if x.kind % 4 = 0 then numB x.n x.bytes else if x.kind % 4 = 1 then rowB x.row else if x.kind % 4 = 2 then x.text else txtB x.text
def opsB (l : List OpV) : List UInt8 := l.flatMap opB
theorem opsB_snoc (l : List OpV) (x : OpV) : opsB (l ++ [x]) = opsB l ++ opB x := by simp [opsB]
def OpV.vol (x : OpV) : Nat := x.row.length + x.text.length + 8
def volB (l : List OpV) : Nat := (l.map OpV.vol).sum
theorem numB_len (n bytes : Int) : (numB n bytes).length ≤ 8 := by
  unfold numB
  split
  · rename_i h
    rw [leB_len]
    unfold numE at h
    split at h
    · omega
    · cases h
  · simp
theorem opB_len (x : OpV) : (opB x).length ≤ x.vol := by
  unfold opB OpV.vol
  have := numB_len x.n x.bytes
  split
  · omega
  · split
    · simp [rowB]; omega
    · split
      · omega
      · simp [txtB, leB_len]; omega
theorem opsB_len : ∀ l : List OpV, (opsB l).length ≤ volB l
  | [] => by simp [opsB, volB]
  | x :: l => by
    have h1 := opsB_len l
    have h2 := opB_len x
    simp only [opsB, volB, List.flatMap_cons, List.length_append, List.map_cons, List.sum_cons] at *
    omega
theorem volB_take (l : List OpV) (k : Nat) : volB (l.take k) ≤ volB l := by
  have : volB l = volB (l.take k) + volB (l.drop k) := by
    unfold volB
    rw [← List.sum_append, ← List.map_append, List.take_append_drop]
  omega
theorem volB_get {l : List OpV} {k : Nat} {x : OpV} (h : l[k]? = some x) : x.vol ≤ volB l := by
  obtain ⟨h1, h2⟩ := List.getElem?_eq_some_iff.1 h
  have : volB l = volB (l.take k) + (x.vol + volB (l.drop (k + 1))) := by
    unfold volB
    rw [← List.sum_cons, ← List.map_cons, ← List.sum_append, ← List.map_append, ← h2, List.getElem_cons_drop, List.take_append_drop]
  omega

theorem volB_len : ∀ l : List OpV, l.length ≤ volB l
  | [] => Nat.zero_le _
  | x :: l => by
    have := volB_len l
    simp only [volB, OpV.vol, List.length_cons, List.map_cons, List.sum_cons] at *
    omega
/-- an op of the script, as it lies in a later world -/
theorem OpsC.at {W w : World} {A : Option Addr} {ops : List OpV} (h : OpsC W A ops) (hf : Fr no W w) {k : Nat} {x : OpV} (hx : ops[k]? = some x) :
    ∃ b0 o0 Ar cr, A = some ⟨b0, o0, none⟩ ∧ Cs w (some ⟨b0, o0 + (k : Int).toNat * 5, none⟩) [.int .i64 x.kind, .int .i64 x.n, .int .i64 x.bytes, .slice Ar x.row.length cr, .string (sOf x.text)] ∧
      Cs W Ar (x.row.map iv) ∧ x.ok ∧ (x.row ≠ [] → ∀ a, Ar = some a → a.block < W.heap.size) ∧ b0 < W.heap.size := by
  obtain ⟨b0, o0, cs, rfl, ⟨Ar, cr, rfl, hrow⟩, hok, hcs⟩ := h k x hx
  refine ⟨b0, o0, Ar, cr, rfl, fun j u hj => ?_, hrow, hok, fun hne a ha => ?_, cell_lt (hcs 0 _ rfl)⟩
  · have h1 := hcs j u hj
    refine ⟨_, _, rfl, ?_⟩
    rw [Int.toNat_natCast]
    exact (Cs.fr0 (w := W) (A := some ⟨b0, o0 + k * 5 + j, none⟩) (xs := [u]) (fun j' u' h' => by
      cases j' with
      | zero => simp at h'; subst h'; exact ⟨_, _, rfl, h1⟩
      | succ j' => simp at h') hf).at (j := 0) rfl
  · have hl : 0 < x.row.length := List.length_pos_iff.2 hne
    obtain ⟨b, o, rfl, hc⟩ := hrow 0 (iv x.row[0]) (by simp [hl])
    cases ha
    exact cell_lt hc
theorem opsB_take {ops : List OpV} {k : Nat} {x : OpV} (hx : ops[k]? = some x) : opsB (ops.take (k + 1)) = opsB (ops.take k) ++ opB x := by
  obtain ⟨h1, h2⟩ := List.getElem?_eq_some_iff.1 hx
  rw [List.take_succ_eq_append_getElem h1, opsB_snoc, h2]

/-- a writer in new memory -/
def WI (W w : World) (p : Nat) (bs : List UInt8) : Prop := ∃ v, Wr w p v bs ∧ Fr no W w ∧ W.heap.size ≤ p ∧ ∀ g, v.ownBlock = some g → W.heap.size ≤ g
theorem Own.lt {w : World} {e sz : Nat} {v : Value} {m : Nat} {xs : List Value} (h : Own w e sz v m xs) : ∀ g, v.ownBlock = some g → g < w.heap.size := by
  intro g hg
  rcases h.2 with ⟨rfl, _⟩ | ⟨g', cap, cur, rfl, _, hb, _⟩
  · cases hg
  · cases hg
    exact Blk.lt hb
theorem WI.tr {W w w' : World} {p : Nat} {bs : List UInt8} (h : WI W w p bs) (hf : Fr no w w') : WI W w' p bs :=
  let ⟨v, h1, h2, h3, h4⟩ := h
  ⟨v, h1.fr0 hf, h2.tr hf, h3, h4⟩
theorem WI.step {W w w' : World} {p : Nat} {bs' : List UInt8} {v : Value} (h1 : Fr no W w) (hp : W.heap.size ≤ p) (hg : ∀ g, v.ownBlock = some g → W.heap.size ≤ g)
    (h : ∃ v', Wr w' p v' bs' ∧ Fr (WS p v) w w' ∧ NB w v v') : WI W w' p bs' := by
  obtain ⟨v', hw, hf, hn⟩ := h
  refine ⟨v', hw, h1.trans hf (fun b hb hx => ?_), hp, fun g hg' => ?_⟩
  · rcases hx with rfl | hx
    · omega
    · have := hg _ hx; omega
  · rcases hn g hg' with h2 | h2
    · exact hg g h2
    · have := h1.size; omega
end Go.Wk.Ytihjpjpellagiaa
