/-
  Chapter 16: models apart from a block; the law ShapeSame.
-/
import Derived.Test.YtfgllkflnkolhaaDoorShYi
set_option linter.unusedVariables false
namespace Go.Wk.YtfgllkflnkolhaaDoor
open Go Go.Wk Go.Proofs

/-- a row does not lie in this block -/
def CsOff (p : Nat) (A : Option Addr) (xs : List Value) : Prop := xs ≠ [] → ∀ a, A = some a → a.block ≠ p
theorem CsOff.keep {p : Nat} {A : Option Addr} {xs : List Value} {w w' : World} (h : CsOff p A xs) (hc : Cs w A xs) (hf : Fr (fun c => c = p) w w') : Cs w' A xs := fun j u hj => by
  obtain ⟨b, o, e, hcc⟩ := hc j u hj
  refine ⟨b, o, e, cell_fr hcc hf (fun z => ?_)⟩
  have := h (fun e => by rw [e] at hj; simp at hj) _ e
  exact this z
theorem CsOff.lt {p : Nat} {A : Option Addr} {xs : List Value} {w : World} (hc : Cs w A xs) (hp : w.heap.size ≤ p) : CsOff p A xs := fun hne a ha e => by
  cases xs with
  | nil => exact hne rfl
  | cons x l =>
    obtain ⟨b, o, e2, hcc⟩ := hc 0 x rfl
    rw [ha] at e2; cases e2
    have h1 : b < w.heap.size := cell_lt hcc
    have e : b = p := e
    omega
theorem CsOff.own {p e sz n m c : Nat} {A : Option Addr} {xs : List Value} {w : World} (ho : Own w e sz (.slice A n c) m xs) (hp : ∀ g, (Value.slice A n c).ownBlock = some g → g ≠ p) : CsOff p A xs := fun hne a ha e => by
  obtain ⟨A', c', e2, _, h3⟩ := ho.slice
  injection e2 with e3
  rw [← e3] at h3
  exact hp _ (h3 a ha).1 e
/-- a model does not lie in this block -/
structure LM.Off (p : Nat) (m : LM) : Prop where
  t : CsOff p m.tA (m.V.texts.map sv)
  g : CsOff p m.mA (mcs m.V.merges)
  b : CsOff p m.bA (m.bs.flatMap bkC)
  rows : ∀ r ∈ m.rows, CsOff p r.A (r.xs.map i8v)
  bs : ∀ b ∈ m.bs, ∀ r ∈ b.rows, CsOff p r.A (r.xs.map i8v)
theorem LM.At.off {m : LM} {w w' : World} {p : Nat} (h : m.At w) (ho : m.Off p) (hf : Fr (fun c => c = p) w w') : m.At w' :=
  ⟨⟨ho.t.keep h.voc.1 hf, ho.g.keep h.voc.2 hf⟩, fun r hr => (ho.rows r hr).keep (h.rows r hr) hf, ho.b.keep h.blk hf, fun b hb r hr => (ho.bs b hb r hr).keep (h.bs b hb r hr) hf⟩
theorem LM.Off.lt {m : LM} {w : World} {p : Nat} (h : m.At w) (hp : w.heap.size ≤ p) : m.Off p :=
  ⟨CsOff.lt h.voc.1 hp, CsOff.lt h.voc.2 hp, CsOff.lt h.blk hp, fun r hr => CsOff.lt (h.rows r hr) hp, fun b hb r hr => CsOff.lt (h.bs b hb r hr) hp⟩
theorem mem_all1 {m : LM} {r : Rw} (h : r ∈ m.rows) : r ∈ m.all := by
  simp only [List.mem_cons, List.not_mem_nil, or_false] at h
  simp only [LM.all, List.mem_append, List.mem_cons, List.not_mem_nil, or_false]
  rcases h with z | z | z | z | z | z <;> simp [z]
theorem mem_all2 {m : LM} {b : Bk Rw} {r : Rw} (hb : b ∈ m.bs) (h : r ∈ b.rows) : r ∈ m.all := List.mem_append.2 (.inl (List.mem_append.2 (.inr (List.mem_flatMap.2 ⟨b, hb, h⟩))))
theorem OwnM.off {TM TB : TypeId} {w0 w : World} {m : LM} (h : OwnM TM TB w0 w m) {p : Nat} (hp : p < w0.heap.size) : m.Off p := by
  have hr : ∀ r ∈ m.all, CsOff p r.A (r.xs.map i8v) := fun r hr => CsOff.own (h.rows r hr).1 fun g hg e => by have := (h.rows r hr).2 g hg; omega
  exact ⟨CsOff.own h.txt fun g hg e => by have := (h.ge g (.inl hg)).1; omega, CsOff.own h.mrg fun g hg e => by have := (h.ge g (.inr (.inl hg))).1; omega, CsOff.own h.blk fun g hg e => by have := (h.ge g (.inr (.inr hg))).1; omega,
    fun r h' => hr r (mem_all1 h'), fun b hb r h' => hr r (mem_all2 hb h')⟩
set_option maxHeartbeats 16000000 in
theorem lawSame (m u : LM) (w : World) (hm : m.At w) (hu : u.At w) (hl : m.Sm) (hl2 : u.Sm) (hT : QT w) :
    CallsF Tryd.prog 8 [lmV m, lmV u] w fun z w' => z = .bool true ∧ Fr no w w' := by
  refine callsF Tryd.func8 rfl rfl (by decide) rfl ?_
  refine sA [] rfl ?_
  refine ev_box rfl rfl rfl fun p w1 hp kp f1 => ?_
  refine ev_box rfl rfl rfl fun q w2 hq kq f2 => ?_
  have kp : Blk w2 p (lmC m) 51 := kp.fr0 f2
  have kq : Blk w2 q (lmC u) 51 := kq
  have hF := f1.tr f2
  refine sA [] rfl ?_
  refine ev_call rfl rfl rfl (lAwake w2 (hT.fr0 hF)) ?_
  rintro r w3 ⟨rfl, f3⟩
  have kp := kp.fr0 f3
  have kq := kq.fr0 f3
  have hF := hF.tr f3
  refine sA [] rfl ?_
  refine ev_join1 (α := Nat × Nat × LM × LM) (fun z => [(2, .pointer (some ⟨p, 0, none⟩)), (3, .pointer (some ⟨q, 0, none⟩)), (5, .pointer (some ⟨z.1, 0, none⟩)), (6, .pointer (some ⟨z.2.1, 0, none⟩))])
    (fun z w' => Fr no w3 w' ∧ Blk w' z.1 (lmC z.2.2.1) 43 ∧ Blk w' z.2.1 (lmC z.2.2.2) 43 ∧ z.2.2.1.At w' ∧ z.2.2.2.At w' ∧ z.2.2.1.p = m.p ∧ z.2.2.2.p = u.p) ?_ ?_
  · refine mixC_in (fun w' => Fr no w3 w') mixed (fun w4 g0 => ?_)
    refine m_loadAgg 0 rfl rfl rfl (by kernel_rfl) (by kernel_rfl) rfl rfl tabOk rfl rfl rfl (fun w' h => Cs.of_blk (kp.fr0 h)) ?_
    refine m_loadAgg 2 rfl rfl rfl (by kernel_rfl) (by kernel_rfl) rfl rfl tabOk rfl rfl rfl (fun w' h => Cs.of_blk (kq.fr0 h)) ?_
    refine mix3 rfl rfl rfl rfl ?_ ?_ ?_ g0
    · skip
      refine ev_call rfl rfl rfl (refOf m w4 (hm.fr0 (hF.tr g0)) hl) ?_
      rintro z v1 ⟨t1, rfl, e1, w51⟩
      have f := w51.fr
      have h1 := w51.At
      have g := g0.tr f
      refine mix_op ?_
      refine mix3 rfl rfl rfl rfl ?_ ?_ ?_ g
      · skip
        refine ev_call rfl rfl rfl (refOf u v1 (hu.fr0 (hF.tr g)) hl2) ?_
        rintro z v2 ⟨t2, rfl, e2, w52⟩
        have f := w52.fr
        have h2 := w52.At
        have h1 := h1.fr0 f
        have g := g.tr f
        refine mix_op ?_
        refine mix2 rfl rfl rfl ?_ ?_ g
        · skip
          refine ev_alloc rfl rfl inf43 (fun p5 v3 hp5 k5 f => ?_)
          have y5 : w3.heap.size ≤ p5 ∧ v2.heap.size ≤ p5 := ⟨Nat.le_trans g.size hp5, hp5⟩
          have o15 := LM.Off.lt h1 hp5
          have h1 := h1.fr0 f
          have o25 := LM.Off.lt h2 hp5
          have h2 := h2.fr0 f
          have g := g.tr f
          refine mix_op ?_
          refine mix1 rfl rfl ?_ g
          refine ev_alloc rfl rfl inf43 (fun p6 v4 hp6 k6 f => ?_)
          have y6 : w3.heap.size ≤ p6 ∧ v3.heap.size ≤ p6 := ⟨Nat.le_trans g.size hp6, hp6⟩
          have l5 := k5.lt
          have y6 : w3.heap.size ≤ p6 ∧ p5 < p6 := ⟨y6.1, by have := l5; omega⟩
          have o16 := LM.Off.lt h1 hp6
          have h1 := h1.fr0 f
          have o26 := LM.Off.lt h2 hp6
          have h2 := h2.fr0 f
          have k5 := k5.fr0 f
          have g := g.tr f
          refine mix_op ?_
          have l5 := k5.lt
          have l6 := k6.lt
          have n56 : p5 ≠ p6 := by have := y6.2; omega
          refine mix1 rfl rfl ?_ g
          refine ev_storeAgg tabOk rfl rfl rfl rfl rfl rfl k5 rfl (fun x1 k5 d1 => ?_)
          have g : Fr no w3 x1 := g.trans d1 fun z hz e => by have : z = p5 := e; have := y5.1; omega
          have h1 := h1.off o15 d1
          have h2 := h2.off o25 d1
          have k6 := k6.fr d1 (fun e => n56 e.symm)
          refine mix_op ?_
          refine mix1 rfl rfl ?_ g
          refine ev_storeAgg tabOk rfl rfl rfl rfl rfl rfl k6 rfl (fun x2 k6 d2 => ?_)
          have g : Fr no w3 x2 := g.trans d2 fun z hz e => by have : z = p6 := e; have := y6.1; omega
          have h1 := h1.off o16 d2
          have h2 := h2.off o26 d2
          have k5 := k5.fr d2 (fun e => n56 e)
          refine mix_op ?_
          refine mix_out rfl ?_ g
          skip
          exact ev_out (p5, p6, t1, t2) ⟨g, k5, k6, h1, h2, e1, e2⟩ ⟨rfl, rfl, rfl, rfl, trivial⟩
        · skip
          refine ev_alloc rfl rfl inf43 (fun p6 v3 hp6 k6 f => ?_)
          have y6 : w3.heap.size ≤ p6 ∧ v2.heap.size ≤ p6 := ⟨Nat.le_trans g.size hp6, hp6⟩
          have o16 := LM.Off.lt h1 hp6
          have h1 := h1.fr0 f
          have o26 := LM.Off.lt h2 hp6
          have h2 := h2.fr0 f
          have g := g.tr f
          refine mix_op ?_
          refine mix1 rfl rfl ?_ g
          refine ev_alloc rfl rfl inf43 (fun p5 v4 hp5 k5 f => ?_)
          have y5 : w3.heap.size ≤ p5 ∧ v3.heap.size ≤ p5 := ⟨Nat.le_trans g.size hp5, hp5⟩
          have l6 := k6.lt
          have y5 : w3.heap.size ≤ p5 ∧ p6 < p5 := ⟨y5.1, by have := l6; omega⟩
          have o15 := LM.Off.lt h1 hp5
          have h1 := h1.fr0 f
          have o25 := LM.Off.lt h2 hp5
          have h2 := h2.fr0 f
          have k6 := k6.fr0 f
          have g := g.tr f
          refine mix_op ?_
          have l5 := k5.lt
          have l6 := k6.lt
          have n56 : p5 ≠ p6 := by have := y5.2; omega
          refine mix1 rfl rfl ?_ g
          refine ev_storeAgg tabOk rfl rfl rfl rfl rfl rfl k5 rfl (fun x1 k5 d1 => ?_)
          have g : Fr no w3 x1 := g.trans d1 fun z hz e => by have : z = p5 := e; have := y5.1; omega
          have h1 := h1.off o15 d1
          have h2 := h2.off o25 d1
          have k6 := k6.fr d1 (fun e => n56 e.symm)
          refine mix_op ?_
          refine mix1 rfl rfl ?_ g
          refine ev_storeAgg tabOk rfl rfl rfl rfl rfl rfl k6 rfl (fun x2 k6 d2 => ?_)
          have g : Fr no w3 x2 := g.trans d2 fun z hz e => by have : z = p6 := e; have := y6.1; omega
          have h1 := h1.off o16 d2
          have h2 := h2.off o26 d2
          have k5 := k5.fr d2 (fun e => n56 e)
          refine mix_op ?_
          refine mix_out rfl ?_ g
          skip
          exact ev_out (p5, p6, t1, t2) ⟨g, k5, k6, h1, h2, e1, e2⟩ ⟨rfl, rfl, rfl, rfl, trivial⟩
      · skip
        refine ev_alloc rfl rfl inf43 (fun p5 v2 hp5 k5 f => ?_)
        have y5 : w3.heap.size ≤ p5 ∧ v1.heap.size ≤ p5 := ⟨Nat.le_trans g.size hp5, hp5⟩
        have o15 := LM.Off.lt h1 hp5
        have h1 := h1.fr0 f
        have g := g.tr f
        refine mix_op ?_
        refine mix2 rfl rfl rfl ?_ ?_ g
        · skip
          refine ev_call rfl rfl rfl (refOf u v2 (hu.fr0 (hF.tr g)) hl2) ?_
          rintro z v3 ⟨t2, rfl, e2, w52⟩
          have f := w52.fr
          have h2 := w52.At
          have h1 := h1.fr0 f
          have o25 := w52.off k5.lt
          have k5 := k5.fr0 f
          have g := g.tr f
          refine mix_op ?_
          refine mix1 rfl rfl ?_ g
          refine ev_alloc rfl rfl inf43 (fun p6 v4 hp6 k6 f => ?_)
          have y6 : w3.heap.size ≤ p6 ∧ v3.heap.size ≤ p6 := ⟨Nat.le_trans g.size hp6, hp6⟩
          have l5 := k5.lt
          have y6 : w3.heap.size ≤ p6 ∧ p5 < p6 := ⟨y6.1, by have := l5; omega⟩
          have o16 := LM.Off.lt h1 hp6
          have h1 := h1.fr0 f
          have o26 := LM.Off.lt h2 hp6
          have h2 := h2.fr0 f
          have k5 := k5.fr0 f
          have g := g.tr f
          refine mix_op ?_
          have l5 := k5.lt
          have l6 := k6.lt
          have n56 : p5 ≠ p6 := by have := y6.2; omega
          refine mix1 rfl rfl ?_ g
          refine ev_storeAgg tabOk rfl rfl rfl rfl rfl rfl k5 rfl (fun x1 k5 d1 => ?_)
          have g : Fr no w3 x1 := g.trans d1 fun z hz e => by have : z = p5 := e; have := y5.1; omega
          have h1 := h1.off o15 d1
          have h2 := h2.off o25 d1
          have k6 := k6.fr d1 (fun e => n56 e.symm)
          refine mix_op ?_
          refine mix1 rfl rfl ?_ g
          refine ev_storeAgg tabOk rfl rfl rfl rfl rfl rfl k6 rfl (fun x2 k6 d2 => ?_)
          have g : Fr no w3 x2 := g.trans d2 fun z hz e => by have : z = p6 := e; have := y6.1; omega
          have h1 := h1.off o16 d2
          have h2 := h2.off o26 d2
          have k5 := k5.fr d2 (fun e => n56 e)
          refine mix_op ?_
          refine mix_out rfl ?_ g
          skip
          exact ev_out (p5, p6, t1, t2) ⟨g, k5, k6, h1, h2, e1, e2⟩ ⟨rfl, rfl, rfl, rfl, trivial⟩
        · skip
          refine ev_alloc rfl rfl inf43 (fun p6 v3 hp6 k6 f => ?_)
          have y6 : w3.heap.size ≤ p6 ∧ v2.heap.size ≤ p6 := ⟨Nat.le_trans g.size hp6, hp6⟩
          have l5 := k5.lt
          have y6 : w3.heap.size ≤ p6 ∧ p5 < p6 := ⟨y6.1, by have := l5; omega⟩
          have o16 := LM.Off.lt h1 hp6
          have h1 := h1.fr0 f
          have k5 := k5.fr0 f
          have g := g.tr f
          refine mix_op ?_
          refine mix1 rfl rfl ?_ g
          refine ev_call rfl rfl rfl (refOf u v3 (hu.fr0 (hF.tr g)) hl2) ?_
          rintro z v4 ⟨t2, rfl, e2, w52⟩
          have f := w52.fr
          have h2 := w52.At
          have h1 := h1.fr0 f
          have o25 := w52.off k5.lt
          have k5 := k5.fr0 f
          have o26 := w52.off k6.lt
          have k6 := k6.fr0 f
          have g := g.tr f
          refine mix_op ?_
          have l5 := k5.lt
          have l6 := k6.lt
          have n56 : p5 ≠ p6 := by have := y6.2; omega
          refine mix1 rfl rfl ?_ g
          refine ev_storeAgg tabOk rfl rfl rfl rfl rfl rfl k5 rfl (fun x1 k5 d1 => ?_)
          have g : Fr no w3 x1 := g.trans d1 fun z hz e => by have : z = p5 := e; have := y5.1; omega
          have h1 := h1.off o15 d1
          have h2 := h2.off o25 d1
          have k6 := k6.fr d1 (fun e => n56 e.symm)
          refine mix_op ?_
          refine mix1 rfl rfl ?_ g
          refine ev_storeAgg tabOk rfl rfl rfl rfl rfl rfl k6 rfl (fun x2 k6 d2 => ?_)
          have g : Fr no w3 x2 := g.trans d2 fun z hz e => by have : z = p6 := e; have := y6.1; omega
          have h1 := h1.off o16 d2
          have h2 := h2.off o26 d2
          have k5 := k5.fr d2 (fun e => n56 e)
          refine mix_op ?_
          refine mix_out rfl ?_ g
          skip
          exact ev_out (p5, p6, t1, t2) ⟨g, k5, k6, h1, h2, e1, e2⟩ ⟨rfl, rfl, rfl, rfl, trivial⟩
      · skip
        refine ev_alloc rfl rfl inf43 (fun p6 v2 hp6 k6 f => ?_)
        have y6 : w3.heap.size ≤ p6 ∧ v1.heap.size ≤ p6 := ⟨Nat.le_trans g.size hp6, hp6⟩
        have o16 := LM.Off.lt h1 hp6
        have h1 := h1.fr0 f
        have g := g.tr f
        refine mix_op ?_
        refine mix2 rfl rfl rfl ?_ ?_ g
        · skip
          refine ev_call rfl rfl rfl (refOf u v2 (hu.fr0 (hF.tr g)) hl2) ?_
          rintro z v3 ⟨t2, rfl, e2, w52⟩
          have f := w52.fr
          have h2 := w52.At
          have h1 := h1.fr0 f
          have o26 := w52.off k6.lt
          have k6 := k6.fr0 f
          have g := g.tr f
          refine mix_op ?_
          refine mix1 rfl rfl ?_ g
          refine ev_alloc rfl rfl inf43 (fun p5 v4 hp5 k5 f => ?_)
          have y5 : w3.heap.size ≤ p5 ∧ v3.heap.size ≤ p5 := ⟨Nat.le_trans g.size hp5, hp5⟩
          have l6 := k6.lt
          have y5 : w3.heap.size ≤ p5 ∧ p6 < p5 := ⟨y5.1, by have := l6; omega⟩
          have o15 := LM.Off.lt h1 hp5
          have h1 := h1.fr0 f
          have o25 := LM.Off.lt h2 hp5
          have h2 := h2.fr0 f
          have k6 := k6.fr0 f
          have g := g.tr f
          refine mix_op ?_
          have l5 := k5.lt
          have l6 := k6.lt
          have n56 : p5 ≠ p6 := by have := y5.2; omega
          refine mix1 rfl rfl ?_ g
          refine ev_storeAgg tabOk rfl rfl rfl rfl rfl rfl k5 rfl (fun x1 k5 d1 => ?_)
          have g : Fr no w3 x1 := g.trans d1 fun z hz e => by have : z = p5 := e; have := y5.1; omega
          have h1 := h1.off o15 d1
          have h2 := h2.off o25 d1
          have k6 := k6.fr d1 (fun e => n56 e.symm)
          refine mix_op ?_
          refine mix1 rfl rfl ?_ g
          refine ev_storeAgg tabOk rfl rfl rfl rfl rfl rfl k6 rfl (fun x2 k6 d2 => ?_)
          have g : Fr no w3 x2 := g.trans d2 fun z hz e => by have : z = p6 := e; have := y6.1; omega
          have h1 := h1.off o16 d2
          have h2 := h2.off o26 d2
          have k5 := k5.fr d2 (fun e => n56 e)
          refine mix_op ?_
          refine mix_out rfl ?_ g
          skip
          exact ev_out (p5, p6, t1, t2) ⟨g, k5, k6, h1, h2, e1, e2⟩ ⟨rfl, rfl, rfl, rfl, trivial⟩
        · skip
          refine ev_alloc rfl rfl inf43 (fun p5 v3 hp5 k5 f => ?_)
          have y5 : w3.heap.size ≤ p5 ∧ v2.heap.size ≤ p5 := ⟨Nat.le_trans g.size hp5, hp5⟩
          have l6 := k6.lt
          have y5 : w3.heap.size ≤ p5 ∧ p6 < p5 := ⟨y5.1, by have := l6; omega⟩
          have o15 := LM.Off.lt h1 hp5
          have h1 := h1.fr0 f
          have k6 := k6.fr0 f
          have g := g.tr f
          refine mix_op ?_
          refine mix1 rfl rfl ?_ g
          refine ev_call rfl rfl rfl (refOf u v3 (hu.fr0 (hF.tr g)) hl2) ?_
          rintro z v4 ⟨t2, rfl, e2, w52⟩
          have f := w52.fr
          have h2 := w52.At
          have h1 := h1.fr0 f
          have o25 := w52.off k5.lt
          have k5 := k5.fr0 f
          have o26 := w52.off k6.lt
          have k6 := k6.fr0 f
          have g := g.tr f
          refine mix_op ?_
          have l5 := k5.lt
          have l6 := k6.lt
          have n56 : p5 ≠ p6 := by have := y5.2; omega
          refine mix1 rfl rfl ?_ g
          refine ev_storeAgg tabOk rfl rfl rfl rfl rfl rfl k5 rfl (fun x1 k5 d1 => ?_)
          have g : Fr no w3 x1 := g.trans d1 fun z hz e => by have : z = p5 := e; have := y5.1; omega
          have h1 := h1.off o15 d1
          have h2 := h2.off o25 d1
          have k6 := k6.fr d1 (fun e => n56 e.symm)
          refine mix_op ?_
          refine mix1 rfl rfl ?_ g
          refine ev_storeAgg tabOk rfl rfl rfl rfl rfl rfl k6 rfl (fun x2 k6 d2 => ?_)
          have g : Fr no w3 x2 := g.trans d2 fun z hz e => by have : z = p6 := e; have := y6.1; omega
          have h1 := h1.off o16 d2
          have h2 := h2.off o26 d2
          have k5 := k5.fr d2 (fun e => n56 e)
          refine mix_op ?_
          refine mix_out rfl ?_ g
          skip
          exact ev_out (p5, p6, t1, t2) ⟨g, k5, k6, h1, h2, e1, e2⟩ ⟨rfl, rfl, rfl, rfl, trivial⟩
    · skip
      refine ev_alloc rfl rfl inf43 (fun p5 v1 hp5 k5 f => ?_)
      have y5 : w3.heap.size ≤ p5 ∧ w4.heap.size ≤ p5 := ⟨Nat.le_trans g0.size hp5, hp5⟩
      have g := g0.tr f
      refine mix_op ?_
      refine mix2 rfl rfl rfl ?_ ?_ g
      · skip
        refine ev_call rfl rfl rfl (refOf m v1 (hm.fr0 (hF.tr g)) hl) ?_
        rintro z v2 ⟨t1, rfl, e1, w51⟩
        have f := w51.fr
        have h1 := w51.At
        have o15 := w51.off k5.lt
        have k5 := k5.fr0 f
        have g := g.tr f
        refine mix_op ?_
        refine mix2 rfl rfl rfl ?_ ?_ g
        · skip
          refine ev_call rfl rfl rfl (refOf u v2 (hu.fr0 (hF.tr g)) hl2) ?_
          rintro z v3 ⟨t2, rfl, e2, w52⟩
          have f := w52.fr
          have h2 := w52.At
          have h1 := h1.fr0 f
          have o25 := w52.off k5.lt
          have k5 := k5.fr0 f
          have g := g.tr f
          refine mix_op ?_
          refine mix1 rfl rfl ?_ g
          refine ev_alloc rfl rfl inf43 (fun p6 v4 hp6 k6 f => ?_)
          have y6 : w3.heap.size ≤ p6 ∧ v3.heap.size ≤ p6 := ⟨Nat.le_trans g.size hp6, hp6⟩
          have l5 := k5.lt
          have y6 : w3.heap.size ≤ p6 ∧ p5 < p6 := ⟨y6.1, by have := l5; omega⟩
          have o16 := LM.Off.lt h1 hp6
          have h1 := h1.fr0 f
          have o26 := LM.Off.lt h2 hp6
          have h2 := h2.fr0 f
          have k5 := k5.fr0 f
          have g := g.tr f
          refine mix_op ?_
          have l5 := k5.lt
          have l6 := k6.lt
          have n56 : p5 ≠ p6 := by have := y6.2; omega
          refine mix1 rfl rfl ?_ g
          refine ev_storeAgg tabOk rfl rfl rfl rfl rfl rfl k5 rfl (fun x1 k5 d1 => ?_)
          have g : Fr no w3 x1 := g.trans d1 fun z hz e => by have : z = p5 := e; have := y5.1; omega
          have h1 := h1.off o15 d1
          have h2 := h2.off o25 d1
          have k6 := k6.fr d1 (fun e => n56 e.symm)
          refine mix_op ?_
          refine mix1 rfl rfl ?_ g
          refine ev_storeAgg tabOk rfl rfl rfl rfl rfl rfl k6 rfl (fun x2 k6 d2 => ?_)
          have g : Fr no w3 x2 := g.trans d2 fun z hz e => by have : z = p6 := e; have := y6.1; omega
          have h1 := h1.off o16 d2
          have h2 := h2.off o26 d2
          have k5 := k5.fr d2 (fun e => n56 e)
          refine mix_op ?_
          refine mix_out rfl ?_ g
          skip
          exact ev_out (p5, p6, t1, t2) ⟨g, k5, k6, h1, h2, e1, e2⟩ ⟨rfl, rfl, rfl, rfl, trivial⟩
        · skip
          refine ev_alloc rfl rfl inf43 (fun p6 v3 hp6 k6 f => ?_)
          have y6 : w3.heap.size ≤ p6 ∧ v2.heap.size ≤ p6 := ⟨Nat.le_trans g.size hp6, hp6⟩
          have l5 := k5.lt
          have y6 : w3.heap.size ≤ p6 ∧ p5 < p6 := ⟨y6.1, by have := l5; omega⟩
          have o16 := LM.Off.lt h1 hp6
          have h1 := h1.fr0 f
          have k5 := k5.fr0 f
          have g := g.tr f
          refine mix_op ?_
          refine mix1 rfl rfl ?_ g
          refine ev_call rfl rfl rfl (refOf u v3 (hu.fr0 (hF.tr g)) hl2) ?_
          rintro z v4 ⟨t2, rfl, e2, w52⟩
          have f := w52.fr
          have h2 := w52.At
          have h1 := h1.fr0 f
          have o25 := w52.off k5.lt
          have k5 := k5.fr0 f
          have o26 := w52.off k6.lt
          have k6 := k6.fr0 f
          have g := g.tr f
          refine mix_op ?_
          have l5 := k5.lt
          have l6 := k6.lt
          have n56 : p5 ≠ p6 := by have := y6.2; omega
          refine mix1 rfl rfl ?_ g
          refine ev_storeAgg tabOk rfl rfl rfl rfl rfl rfl k5 rfl (fun x1 k5 d1 => ?_)
          have g : Fr no w3 x1 := g.trans d1 fun z hz e => by have : z = p5 := e; have := y5.1; omega
          have h1 := h1.off o15 d1
          have h2 := h2.off o25 d1
          have k6 := k6.fr d1 (fun e => n56 e.symm)
          refine mix_op ?_
          refine mix1 rfl rfl ?_ g
          refine ev_storeAgg tabOk rfl rfl rfl rfl rfl rfl k6 rfl (fun x2 k6 d2 => ?_)
          have g : Fr no w3 x2 := g.trans d2 fun z hz e => by have : z = p6 := e; have := y6.1; omega
          have h1 := h1.off o16 d2
          have h2 := h2.off o26 d2
          have k5 := k5.fr d2 (fun e => n56 e)
          refine mix_op ?_
          refine mix_out rfl ?_ g
          skip
          exact ev_out (p5, p6, t1, t2) ⟨g, k5, k6, h1, h2, e1, e2⟩ ⟨rfl, rfl, rfl, rfl, trivial⟩
      · skip
        refine ev_alloc rfl rfl inf43 (fun p6 v2 hp6 k6 f => ?_)
        have y6 : w3.heap.size ≤ p6 ∧ v1.heap.size ≤ p6 := ⟨Nat.le_trans g.size hp6, hp6⟩
        have l5 := k5.lt
        have y6 : w3.heap.size ≤ p6 ∧ p5 < p6 := ⟨y6.1, by have := l5; omega⟩
        have k5 := k5.fr0 f
        have g := g.tr f
        refine mix_op ?_
        refine mix1 rfl rfl ?_ g
        refine ev_call rfl rfl rfl (refOf m v2 (hm.fr0 (hF.tr g)) hl) ?_
        rintro z v3 ⟨t1, rfl, e1, w51⟩
        have f := w51.fr
        have h1 := w51.At
        have o15 := w51.off k5.lt
        have k5 := k5.fr0 f
        have o16 := w51.off k6.lt
        have k6 := k6.fr0 f
        have g := g.tr f
        refine mix_op ?_
        refine mix1 rfl rfl ?_ g
        refine ev_call rfl rfl rfl (refOf u v3 (hu.fr0 (hF.tr g)) hl2) ?_
        rintro z v4 ⟨t2, rfl, e2, w52⟩
        have f := w52.fr
        have h2 := w52.At
        have h1 := h1.fr0 f
        have o25 := w52.off k5.lt
        have k5 := k5.fr0 f
        have o26 := w52.off k6.lt
        have k6 := k6.fr0 f
        have g := g.tr f
        refine mix_op ?_
        have l5 := k5.lt
        have l6 := k6.lt
        have n56 : p5 ≠ p6 := by have := y6.2; omega
        refine mix1 rfl rfl ?_ g
        refine ev_storeAgg tabOk rfl rfl rfl rfl rfl rfl k5 rfl (fun x1 k5 d1 => ?_)
        have g : Fr no w3 x1 := g.trans d1 fun z hz e => by have : z = p5 := e; have := y5.1; omega
        have h1 := h1.off o15 d1
        have h2 := h2.off o25 d1
        have k6 := k6.fr d1 (fun e => n56 e.symm)
        refine mix_op ?_
        refine mix1 rfl rfl ?_ g
        refine ev_storeAgg tabOk rfl rfl rfl rfl rfl rfl k6 rfl (fun x2 k6 d2 => ?_)
        have g : Fr no w3 x2 := g.trans d2 fun z hz e => by have : z = p6 := e; have := y6.1; omega
        have h1 := h1.off o16 d2
        have h2 := h2.off o26 d2
        have k5 := k5.fr d2 (fun e => n56 e)
        refine mix_op ?_
        refine mix_out rfl ?_ g
        skip
        exact ev_out (p5, p6, t1, t2) ⟨g, k5, k6, h1, h2, e1, e2⟩ ⟨rfl, rfl, rfl, rfl, trivial⟩
    · skip
      refine ev_alloc rfl rfl inf43 (fun p6 v1 hp6 k6 f => ?_)
      have y6 : w3.heap.size ≤ p6 ∧ w4.heap.size ≤ p6 := ⟨Nat.le_trans g0.size hp6, hp6⟩
      have g := g0.tr f
      refine mix_op ?_
      refine mix2 rfl rfl rfl ?_ ?_ g
      · skip
        refine ev_call rfl rfl rfl (refOf m v1 (hm.fr0 (hF.tr g)) hl) ?_
        rintro z v2 ⟨t1, rfl, e1, w51⟩
        have f := w51.fr
        have h1 := w51.At
        have o16 := w51.off k6.lt
        have k6 := k6.fr0 f
        have g := g.tr f
        refine mix_op ?_
        refine mix2 rfl rfl rfl ?_ ?_ g
        · skip
          refine ev_call rfl rfl rfl (refOf u v2 (hu.fr0 (hF.tr g)) hl2) ?_
          rintro z v3 ⟨t2, rfl, e2, w52⟩
          have f := w52.fr
          have h2 := w52.At
          have h1 := h1.fr0 f
          have o26 := w52.off k6.lt
          have k6 := k6.fr0 f
          have g := g.tr f
          refine mix_op ?_
          refine mix1 rfl rfl ?_ g
          refine ev_alloc rfl rfl inf43 (fun p5 v4 hp5 k5 f => ?_)
          have y5 : w3.heap.size ≤ p5 ∧ v3.heap.size ≤ p5 := ⟨Nat.le_trans g.size hp5, hp5⟩
          have l6 := k6.lt
          have y5 : w3.heap.size ≤ p5 ∧ p6 < p5 := ⟨y5.1, by have := l6; omega⟩
          have o15 := LM.Off.lt h1 hp5
          have h1 := h1.fr0 f
          have o25 := LM.Off.lt h2 hp5
          have h2 := h2.fr0 f
          have k6 := k6.fr0 f
          have g := g.tr f
          refine mix_op ?_
          have l5 := k5.lt
          have l6 := k6.lt
          have n56 : p5 ≠ p6 := by have := y5.2; omega
          refine mix1 rfl rfl ?_ g
          refine ev_storeAgg tabOk rfl rfl rfl rfl rfl rfl k5 rfl (fun x1 k5 d1 => ?_)
          have g : Fr no w3 x1 := g.trans d1 fun z hz e => by have : z = p5 := e; have := y5.1; omega
          have h1 := h1.off o15 d1
          have h2 := h2.off o25 d1
          have k6 := k6.fr d1 (fun e => n56 e.symm)
          refine mix_op ?_
          refine mix1 rfl rfl ?_ g
          refine ev_storeAgg tabOk rfl rfl rfl rfl rfl rfl k6 rfl (fun x2 k6 d2 => ?_)
          have g : Fr no w3 x2 := g.trans d2 fun z hz e => by have : z = p6 := e; have := y6.1; omega
          have h1 := h1.off o16 d2
          have h2 := h2.off o26 d2
          have k5 := k5.fr d2 (fun e => n56 e)
          refine mix_op ?_
          refine mix_out rfl ?_ g
          skip
          exact ev_out (p5, p6, t1, t2) ⟨g, k5, k6, h1, h2, e1, e2⟩ ⟨rfl, rfl, rfl, rfl, trivial⟩
        · skip
          refine ev_alloc rfl rfl inf43 (fun p5 v3 hp5 k5 f => ?_)
          have y5 : w3.heap.size ≤ p5 ∧ v2.heap.size ≤ p5 := ⟨Nat.le_trans g.size hp5, hp5⟩
          have l6 := k6.lt
          have y5 : w3.heap.size ≤ p5 ∧ p6 < p5 := ⟨y5.1, by have := l6; omega⟩
          have o15 := LM.Off.lt h1 hp5
          have h1 := h1.fr0 f
          have k6 := k6.fr0 f
          have g := g.tr f
          refine mix_op ?_
          refine mix1 rfl rfl ?_ g
          refine ev_call rfl rfl rfl (refOf u v3 (hu.fr0 (hF.tr g)) hl2) ?_
          rintro z v4 ⟨t2, rfl, e2, w52⟩
          have f := w52.fr
          have h2 := w52.At
          have h1 := h1.fr0 f
          have o25 := w52.off k5.lt
          have k5 := k5.fr0 f
          have o26 := w52.off k6.lt
          have k6 := k6.fr0 f
          have g := g.tr f
          refine mix_op ?_
          have l5 := k5.lt
          have l6 := k6.lt
          have n56 : p5 ≠ p6 := by have := y5.2; omega
          refine mix1 rfl rfl ?_ g
          refine ev_storeAgg tabOk rfl rfl rfl rfl rfl rfl k5 rfl (fun x1 k5 d1 => ?_)
          have g : Fr no w3 x1 := g.trans d1 fun z hz e => by have : z = p5 := e; have := y5.1; omega
          have h1 := h1.off o15 d1
          have h2 := h2.off o25 d1
          have k6 := k6.fr d1 (fun e => n56 e.symm)
          refine mix_op ?_
          refine mix1 rfl rfl ?_ g
          refine ev_storeAgg tabOk rfl rfl rfl rfl rfl rfl k6 rfl (fun x2 k6 d2 => ?_)
          have g : Fr no w3 x2 := g.trans d2 fun z hz e => by have : z = p6 := e; have := y6.1; omega
          have h1 := h1.off o16 d2
          have h2 := h2.off o26 d2
          have k5 := k5.fr d2 (fun e => n56 e)
          refine mix_op ?_
          refine mix_out rfl ?_ g
          skip
          exact ev_out (p5, p6, t1, t2) ⟨g, k5, k6, h1, h2, e1, e2⟩ ⟨rfl, rfl, rfl, rfl, trivial⟩
      · skip
        refine ev_alloc rfl rfl inf43 (fun p5 v2 hp5 k5 f => ?_)
        have y5 : w3.heap.size ≤ p5 ∧ v1.heap.size ≤ p5 := ⟨Nat.le_trans g.size hp5, hp5⟩
        have l6 := k6.lt
        have y5 : w3.heap.size ≤ p5 ∧ p6 < p5 := ⟨y5.1, by have := l6; omega⟩
        have k6 := k6.fr0 f
        have g := g.tr f
        refine mix_op ?_
        refine mix1 rfl rfl ?_ g
        refine ev_call rfl rfl rfl (refOf m v2 (hm.fr0 (hF.tr g)) hl) ?_
        rintro z v3 ⟨t1, rfl, e1, w51⟩
        have f := w51.fr
        have h1 := w51.At
        have o15 := w51.off k5.lt
        have k5 := k5.fr0 f
        have o16 := w51.off k6.lt
        have k6 := k6.fr0 f
        have g := g.tr f
        refine mix_op ?_
        refine mix1 rfl rfl ?_ g
        refine ev_call rfl rfl rfl (refOf u v3 (hu.fr0 (hF.tr g)) hl2) ?_
        rintro z v4 ⟨t2, rfl, e2, w52⟩
        have f := w52.fr
        have h2 := w52.At
        have h1 := h1.fr0 f
        have o25 := w52.off k5.lt
        have k5 := k5.fr0 f
        have o26 := w52.off k6.lt
        have k6 := k6.fr0 f
        have g := g.tr f
        refine mix_op ?_
        have l5 := k5.lt
        have l6 := k6.lt
        have n56 : p5 ≠ p6 := by have := y5.2; omega
        refine mix1 rfl rfl ?_ g
        refine ev_storeAgg tabOk rfl rfl rfl rfl rfl rfl k5 rfl (fun x1 k5 d1 => ?_)
        have g : Fr no w3 x1 := g.trans d1 fun z hz e => by have : z = p5 := e; have := y5.1; omega
        have h1 := h1.off o15 d1
        have h2 := h2.off o25 d1
        have k6 := k6.fr d1 (fun e => n56 e.symm)
        refine mix_op ?_
        refine mix1 rfl rfl ?_ g
        refine ev_storeAgg tabOk rfl rfl rfl rfl rfl rfl k6 rfl (fun x2 k6 d2 => ?_)
        have g : Fr no w3 x2 := g.trans d2 fun z hz e => by have : z = p6 := e; have := y6.1; omega
        have h1 := h1.off o16 d2
        have h2 := h2.off o26 d2
        have k5 := k5.fr d2 (fun e => n56 e)
        refine mix_op ?_
        refine mix_out rfl ?_ g
        skip
        exact ev_out (p5, p6, t1, t2) ⟨g, k5, k6, h1, h2, e1, e2⟩ ⟨rfl, rfl, rfl, rfl, trivial⟩
  rintro ⟨p5, p6, t1, t2⟩ w5 ⟨h35, k5, k6, h1, h2, e1, e2⟩
  dsimp only at k5 k6 h1 h2 e1 e2
  have kp := kp.fr0 h35
  have kq := kq.fr0 h35
  have hF := hF.tr h35
  have hm5 := hm.fr0 hF
  have hu5 := hu.fr0 hF
  have s1 := Sm_p e1 hl
  have s2 := Sm_p e2 hl2
  refine sA [] rfl ?_
  refine mixC_in (fun w' => Fr no w5 w') mixed (fun w6 g => ?_)
  refine m_loadAgg 0 rfl rfl rfl (by kernel_rfl) (by kernel_rfl) rfl rfl tabOk rfl rfl rfl (fun w' h => Cs.of_blk (kp.fr0 h)) ?_
  refine m_loadAgg 1 rfl rfl rfl (by kernel_rfl) (by kernel_rfl) rfl rfl tabOk rfl rfl rfl (fun w' h => Cs.of_blk (kq.fr0 h)) ?_
  refine m_loadAgg 3 rfl rfl rfl (by kernel_rfl) (by kernel_rfl) rfl rfl tabOk rfl rfl rfl (fun w' h => Cs.of_blk (k5.fr0 h)) ?_
  refine m_loadAgg 4 rfl rfl rfl (by kernel_rfl) (by kernel_rfl) rfl rfl tabOk rfl rfl rfl (fun w' h => Cs.of_blk (k6.fr0 h)) ?_
  refine mix1 rfl rfl ?_ g
  refine ev_call rfl rfl rfl (wSameM m u w6 (hm5.fr0 g) (hu5.fr0 g) hl hl2) ?_
  rintro r w7 ⟨rfl, f7⟩
  have g := g.tr f7
  refine mix_op ?_
  refine mix1 rfl rfl ?_ g
  refine ev_call rfl rfl rfl (refSameM t1 t2 w7 (h1.fr0 g) (h2.fr0 g) s1 s2) ?_
  rintro r w8 ⟨rfl, f8⟩
  have g := g.tr f8
  rw [show eqB (t1.p = t2.p) = eqB (m.p = u.p) by rw [e1, e2]]
  refine mix_op ?_
  generalize eqB (m.p = u.p) = t
  have fin : ∀ t : Bool, (t == t) = true := fun t => by cases t <;> rfl
  cases t
  all_goals
    refine mA rfl (by kernel_rfl) (by kernel_rfl) ?_
    refine m_loadAgg 8 rfl rfl rfl (by kernel_rfl) (by kernel_rfl) rfl rfl tabOk rfl rfl rfl (fun w' h => Cs.of_blk (kp.fr0 h)) ?_
    refine m_loadAgg 9 rfl rfl rfl (by kernel_rfl) (by kernel_rfl) rfl rfl tabOk rfl rfl rfl (fun w' h => Cs.of_blk (k5.fr0 h)) ?_
    refine mix1 rfl rfl ?_ g
    refine ev_call rfl rfl rfl (refTo t1 w8 (h1.fr0 g) s1) ?_
    rintro r w9 ⟨c1, rfl, d1, hO1⟩
    have g := g.tr hO1.fr
    refine mix_op ?_
    refine mix1 rfl rfl ?_ g
    refine ev_call rfl rfl rfl (wSameM m c1 w9 (hm5.fr0 g) hO1.At hl (Sm_p d1 s1)) ?_
    rintro r wa ⟨rfl, fa⟩
    have g := g.tr fa
    rw [eqB_t (show m.p = c1.p by rw [d1, e1])]
    refine mix_op ?_
    refine mA rfl (by kernel_rfl) (by kernel_rfl) ?_
    refine m_loadAgg 14 rfl rfl rfl (by kernel_rfl) (by kernel_rfl) rfl rfl tabOk rfl rfl rfl (fun w' h => Cs.of_blk (k6.fr0 h)) ?_
    refine m_loadAgg 16 rfl rfl rfl (by kernel_rfl) (by kernel_rfl) rfl rfl tabOk rfl rfl rfl (fun w' h => Cs.of_blk (kq.fr0 h)) ?_
    refine mix1 rfl rfl ?_ g
    refine ev_call rfl rfl rfl (refTo t2 wa (h2.fr0 g) s2) ?_
    rintro r wb ⟨c2, rfl, d2, hO2⟩
    have g := g.tr hO2.fr
    refine mix_op ?_
    refine mix1 rfl rfl ?_ g
    refine ev_call rfl rfl rfl (wSameM c2 u wb hO2.At (hu5.fr0 g) (Sm_p d2 s2) hl2) ?_
    rintro r wc ⟨rfl, fc⟩
    have g := g.tr fc
    rw [eqB_t (show c2.p = u.p by rw [d2, e2])]
    refine mix_op ?_
    refine mA rfl (by kernel_rfl) (by kernel_rfl) ?_
    refine mix_out rfl ?_ g
    repeat (first | refine sA [] rfl ?_ | refine sB [] rfl ?_ | refine sC [] rfl ?_ | refine sD [] rfl ?_ | refine ev_load rfl rfl tabOk rfl rfl ‹_› ?_ | refine ev_loadB rfl rfl tabOk rfl rfl ‹_› (by rfl) ?_ | refine ev_loadAggB rfl rfl tabOk rfl rfl ‹_› (by rfl) ?_ | refine ev_arith rfl rfl rfl rfl rfl (by simp only [lowK, hiK]; omega) ?_ | refine ev_rem rfl rfl rfl rfl (by omega) (by omega) ?_ | refine ev_quo rfl rfl rfl rfl (by omega) (by omega) (by simp only [hiK]; omega) ?_ | refine ev_index rfl rfl tabOk rfl rfl rfl (by omega) (by omega) ?_ | refine ev_indexA rfl rfl tabOk rfl rfl rfl (by omega) (by omega) rfl ?_ | refine ev_convB rfl rfl tabOk rfl rfl rfl rfl ?_ | refine ev_conv rfl rfl tabOk rfl rfl rfl (by simp only [lowK, hiK]; omega) ?_)
    exact ret1 (.inr rfl) rfl rfl ⟨rfl, hF.tr g⟩
end Go.Wk.YtfgllkflnkolhaaDoor
