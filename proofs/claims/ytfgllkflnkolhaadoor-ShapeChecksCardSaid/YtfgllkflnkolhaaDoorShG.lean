/-
  Chapter 16: models: what they are, what memory holds for them; stores into a part of a block.
-/
import Derived.Test.YtfgllkflnkolhaaDoorShF
set_option linter.unusedVariables false
namespace Go.Wk.YtfgllkflnkolhaaDoor
open Go Go.Wk Go.Proofs

/-- a row of 8-bit numbers, where it lies -/
structure Rw where
  A : Option Addr
  c : Nat
  xs : List Int8
abbrev Rw.v (r : Rw) : Value := .slice r.A r.xs.length r.c
abbrev Rw.At (w : World) (r : Rw) : Prop := Cs w r.A (r.xs.map i8v)
/-- a block of a model -/
structure Bk (ρ : Type) where
  g1 : ρ
  q : ρ
  k : ρ
  v : ρ
  o : ρ
  g2 : ρ
  qs : Int
  ks : Int
  vs : Int
  os : Int
  ss : Int
  ga : ρ
  up : ρ
  dn : ρ
  gas : Int
  ups : Int
  dns : Int
def Bk.map {ρ σ : Type} (f : ρ → σ) (b : Bk ρ) : Bk σ := ⟨f b.g1, f b.q, f b.k, f b.v, f b.o, f b.g2, b.qs, b.ks, b.vs, b.os, b.ss, f b.ga, f b.up, f b.dn, b.gas, b.ups, b.dns⟩
abbrev Bk.rows {ρ : Type} (b : Bk ρ) : List ρ := [b.g1, b.g2, b.q, b.k, b.v, b.o, b.ga, b.up, b.dn]
abbrev bkC (b : Bk Rw) : List Value := [b.g1.v, b.q.v, b.k.v, b.v.v, b.o.v, b.g2.v, i64 b.qs, i64 b.ks, i64 b.vs, i64 b.os, i64 b.ss, b.ga.v, b.up.v, b.dn.v, i64 b.gas, i64 b.ups, i64 b.dns]
abbrev bkV (b : Bk Rw) : Value := .agg ⟨bkC b⟩
def Bk.At (w : World) (b : Bk Rw) : Prop := ∀ r ∈ b.rows, r.At w
theorem Bk.At.fr0 {w w' : World} {b : Bk Rw} (h : b.At w) (hf : Fr no w w') : b.At w' := fun r hr => (h r hr).fr0 hf
abbrev pBk (b : Bk Rw) : Bk (List Int8) := b.map Rw.xs
/-- a model, where its rows lie -/
structure LM where
  s : Shp
  tA : Option Addr
  tc : Nat
  mA : Option Addr
  mc : Nat
  V : VV
  e : Rw
  es : Int
  cos : Rw
  sin : Rw
  bA : Option Addr
  bc : Nat
  bs : List (Bk Rw)
  bend : Rw
  gain : Rw
  un : Rw
  ls : Int
abbrev lmC (m : LM) : List Value := [i64 m.s.voc, i64 m.s.ctx, i64 m.s.dim, i64 m.s.hds, i64 m.s.lay, i64 m.s.hid, .slice m.tA m.V.texts.length m.tc, .slice m.mA m.V.merges.length m.mc, m.e.v, i64 m.es, m.cos.v, m.sin.v, .slice m.bA m.bs.length m.bc, m.bend.v, m.gain.v, m.un.v, i64 m.ls]
abbrev lmV (m : LM) : Value := .agg ⟨lmC m⟩
abbrev LM.rows (m : LM) : List Rw := [m.e, m.cos, m.sin, m.bend, m.gain, m.un]
/-- all rows, as they are made -/
abbrev LM.all (m : LM) : List Rw := [m.gain, m.cos, m.sin, m.bend, m.e] ++ m.bs.flatMap Bk.rows ++ [m.un]
structure LM.At (w : World) (m : LM) : Prop where
  voc : Vo w m.tA m.mA m.V
  rows : ∀ r ∈ m.rows, r.At w
  blk : Cs w m.bA (m.bs.flatMap bkC)
  bs : ∀ b ∈ m.bs, b.At w
theorem LM.At.fr0 {w w' : World} {m : LM} (h : m.At w) (hf : Fr no w w') : m.At w' := ⟨h.voc.fr0 hf, fun r hr => (h.rows r hr).fr0 hf, h.blk.fr0 hf, fun b hb => (h.bs b hb).fr0 hf⟩
/-- a model alone -/
structure Md where
  s : Shp
  V : VV
  e : List Int8
  es : Int
  cos : List Int8
  sin : List Int8
  bs : List (Bk (List Int8))
  bend : List Int8
  gain : List Int8
  un : List Int8
  ls : Int
def LM.p (m : LM) : Md := ⟨m.s, m.V, m.e.xs, m.es, m.cos.xs, m.sin.xs, m.bs.map pBk, m.bend.xs, m.gain.xs, m.un.xs, m.ls⟩

theorem flat_len {α : Type} {f : α → List Value} {k : Nat} (hf : ∀ x, (f x).length = k) : ∀ l : List α, (l.flatMap f).length = l.length * k
  | [] => by simp
  | x :: l => by rw [List.flatMap_cons, List.length_append, hf, flat_len hf l, List.length_cons, Nat.succ_mul]; omega
theorem flat_at {α : Type} {f : α → List Value} {k : Nat} (hf : ∀ x, (f x).length = k) : ∀ {l : List α} {i j : Nat} {x : α} {u : Value}, l[i]? = some x → (f x)[j]? = some u → (l.flatMap f)[i * k + j]? = some u
  | [], i, j, x, u, h, _ => by simp at h
  | y :: l, 0, j, x, u, h, hj => by
    simp only [List.getElem?_cons_zero, Option.some.injEq] at h
    subst h
    rw [List.flatMap_cons, Nat.zero_mul, Nat.zero_add, List.getElem?_append_left (List.getElem?_eq_some_iff.1 hj).1]; exact hj
  | y :: l, i + 1, j, x, u, h, hj => by
    have ih := flat_at hf (l := l) (i := i) (by simpa using h) hj
    rw [List.flatMap_cons, List.getElem?_append_right (by rw [hf, Nat.succ_mul]; omega), hf, show (i + 1) * k + j - k = i * k + j by rw [Nat.succ_mul]; omega]
    exact ih
theorem bkC_len (b : Bk Rw) : (bkC b).length = 17 := rfl
/-- a block at its place -/
theorem blk_at {w : World} {A : Option Addr} {l : List (Bk Rw)} (h : Cs w A (l.flatMap bkC)) {i : Nat} (hi : i < l.length) : ∃ g o, A = some ⟨g, o, none⟩ ∧ Cs w (some ⟨g, o + (i : Int).toNat * 17, none⟩) (bkC l[i]) := by
  have hx : l[i]? = some l[i] := List.getElem?_eq_getElem hi
  obtain ⟨g, o, rfl, _⟩ := h (i * 17 + 0) _ (flat_at bkC_len hx (j := 0) rfl)
  exact ⟨g, o, rfl, by rw [Int.toNat_natCast]; exact h.part (i * 17) fun j u hj => flat_at bkC_len hx hj⟩

section
variable {P : Program} {fn : Func} {R : Ending → World → Prop} {n : Nat} {w : World}
/-- a store of several cells into a part of a block -/
theorem ev_storePart {k : List It} {env : Env} {L l : List Oper} {t : TypeId} {x y : Operand} {ty : TypeId} {ps : String} {af : Array Edge} {g : Option (Nat × Bool)} {tab : Tab} {b o : Nat} {vs cs : List Value} {e : TypeId}
    (hT : TabOk P tab) (hg : guardOf L env g = some true) (hx : ev env x = some (.pointer (some ⟨b, o, none⟩))) (hy : ev env y = some (.agg ⟨vs⟩)) (hag : aggT (tyAt tab t) = some true) (hs : szAt tab t = vs.length) (hv : allOne vs = true)
    (hb : Blk w b cs e) (hl : o + vs.length ≤ cs.length)
    (hk : ∀ w', Blk w' b (cs.take o ++ vs ++ cs.drop (o + vs.length)) e → Fr (fun c => c = b) w w' → H P fn R n (.ops L l :: k) .normal env w') :
    H P fn R n (.ops L (⟨none, .store t x y, ty, ps, af, g⟩ :: l) :: k) .normal env w := by
  have hst := run_storeCells_at P b o e vs 0 ⟨cs⟩ w hb (by simpa using hl) (allOne_ok hv)
  refine ev_do hg (w.setRow b (((⟨cs⟩ : Array Value).toList.take (o + 0) ++ vs ++ (⟨cs⟩ : Array Value).toList.drop (o + 0 + vs.length)).toArray)) (fun a hA => by
    simp only [execOp, hA.ev hx, hA.ev hy]
    refine run_bind (a := ()) ?_
    unfold Instr.storeAt
    show Sem.run P ((Sem.pure _).bind _) w = _
    simp only [Sem.bind, storeVar]
    refine (run_bind (run_sizeOf (ty_size hT hag hs))).trans ?_
    simp only [Value.cells, List.size_toArray, ne_eq, not_true_eq_false, if_false]
    exact hst) (hk _ ?_ ?_)
  · have := setRow_heap w b ⟨cs⟩ (((⟨cs⟩ : Array Value).toList.take (o + 0) ++ vs ++ (⟨cs⟩ : Array Value).toList.drop (o + 0 + vs.length)).toArray) e _ hb
    unfold Blk
    rw [this]
    simp
  · exact ⟨rfl, rfl, rfl, by simp, fun c hc hn => setRow_other w b c _ (fun e => hn e)⟩
end
end Go.Wk.YtfgllkflnkolhaaDoor
