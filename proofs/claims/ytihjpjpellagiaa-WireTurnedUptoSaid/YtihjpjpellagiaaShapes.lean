/-
  The shapes of the layer's arguments.
-/
import Derived.Test.YtihjpjpellagiaaOpen
import Derived.Test.YtihjpjpellagiaaWireD
set_option linter.unusedVariables false
namespace Go.Wk.Ytihjpjpellagiaa
open Go Go.Wk Go.Proofs

def opS : Sh := .st (.pr (.int .i64) (.pr (.int .i64) (.pr (.int .i64) (.pr (.sl .i8) (.pr .str .un)))))
def opsS : Sh := .sl opS
theorem op_fit : fit Try.prog opS 45 [] 0 = true := by kernel_rfl
theorem ops_fit : fit Try.prog opsS 43 [] 0 = true := by kernel_rfl
theorem i8s_fit : fit Try.prog (.sl .i8) 28 [] 0 = true := by kernel_rfl

theorem wf_i64 {n : Int} (h : (Lit.int .i64 n).wf = true) : -9223372036854775808 ≤ n ∧ n ≤ 9223372036854775807 := by
  simp only [Lit.wf, Bool.and_eq_true, decide_eq_true_eq] at h
  exact h

/-- a row of small numbers in memory -/
theorem see_i8s {w : World} {cs : List Value} {l : List Int8} (h : See w (.sl .i8) cs l) : ∃ A cap, cs = [.slice A l.length cap] ∧ l.length ≤ cap ∧ Cs w A (l.map iv) := by
  obtain ⟨A, cap, rfl, h1, h2, h3⟩ := h
  refine ⟨A, cap, rfl, h1, fun j u hj => ?_⟩
  rw [List.getElem?_map, Option.map_eq_some_iff] at hj
  obtain ⟨x, hx, rfl⟩ := hj
  obtain ⟨b, o, xs, rfl, hl, hc, hs⟩ := h3 j x hx
  have hs : xs = [.int .i8 x.toInt] := hs
  subst hs
  refine ⟨b, o, rfl, ?_⟩
  have := hc 0 _ rfl
  simpa [Sh.sz] using this

structure OpV where
  kind : Int
  n : Int
  bytes : Int
  row : List Int8
  text : List UInt8
def OpV.of (x : opS.D) : OpV := ⟨x.1, x.2.1, x.2.2.1, x.2.2.2.1, x.2.2.2.2.1⟩
def OpV.ok (x : OpV) : Prop := (-9223372036854775808 ≤ x.kind ∧ x.kind ≤ 9223372036854775807) ∧ (-9223372036854775808 ≤ x.n ∧ x.n ≤ 9223372036854775807) ∧ (-9223372036854775808 ≤ x.bytes ∧ x.bytes ≤ 9223372036854775807)
/-- the cells of one Op -/
def OpC (w : World) (x : OpV) (cs : List Value) : Prop := ∃ A cap, cs = [.int .i64 x.kind, .int .i64 x.n, .int .i64 x.bytes, .slice A x.row.length cap, .string (sOf x.text)] ∧ Cs w A (x.row.map iv)
theorem see_op {w : World} {cs : List Value} {x : opS.D} (h : See w opS cs x) : OpC w (OpV.of x) cs ∧ (OpV.of x).ok := by
  obtain ⟨k, n, m, l, s, u⟩ := x
  obtain ⟨c1, r1, rfl, ⟨rfl, z1⟩, c2, r2, rfl, ⟨rfl, z2⟩, c3, r3, rfl, ⟨rfl, z3⟩, c4, r4, rfl, h4, c5, r5, rfl, h5, h6⟩ := h
  have h5 : c5 = [.string (sOf s)] := h5
  have h6 : r5 = [] := h6
  obtain ⟨A, cap, rfl, _, hc⟩ := see_i8s h4
  subst h5; subst h6
  exact ⟨⟨A, cap, rfl, hc⟩, wf_i64 z1, wf_i64 z2, wf_i64 z3⟩
/-- the script in memory: the cells of each op -/
def OpsC (w : World) (A : Option Addr) (ops : List OpV) : Prop :=
  ∀ i x, ops[i]? = some x → ∃ b o cs, A = some ⟨b, o, none⟩ ∧ OpC w x cs ∧ x.ok ∧ ∀ j u, cs[j]? = some u → w.cell? ⟨b, o + i * 5 + j, none⟩ = some u
theorem see_ops {w : World} {cs : List Value} {l : List opS.D} (h : See w opsS cs l) : ∃ A cap, cs = [.slice A (l.map OpV.of).length cap] ∧ (l.map OpV.of).length ≤ cap ∧ OpsC w A (l.map OpV.of) := by
  obtain ⟨A, cap, rfl, h1, h2, h3⟩ := h
  refine ⟨A, cap, by rw [List.length_map], by rw [List.length_map]; exact h1, fun i x hx => ?_⟩
  rw [List.getElem?_map, Option.map_eq_some_iff] at hx
  obtain ⟨y, hy, rfl⟩ := hx
  obtain ⟨b, o, xs, rfl, hl, hc, hs⟩ := h3 i y hy
  obtain ⟨g1, g2⟩ := see_op hs
  exact ⟨b, o, xs, rfl, g1, g2, hc⟩
end Go.Wk.Ytihjpjpellagiaa
