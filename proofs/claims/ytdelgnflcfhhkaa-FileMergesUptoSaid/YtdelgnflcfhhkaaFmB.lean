/-
  Chapter 17: a model with lists of its own: the walk.
-/
import Derived.Test.YtdelgnflcfhhkaaFmA
import Derived.Test.YtdelgnflcfhhkaaFlJ
set_option linter.unusedVariables false
namespace Go.Wk.Ytdelgnflcfhhkaa
open Go Go.Wk Go.Proofs

theorem cs_nil {w : World} {l : List Value} (h : Cs w none l) : l = [] := by
  cases l with
  | nil => rfl
  | cons x r =>
    obtain ⟨_, _, e, _⟩ := h 0 x rfl
    cases e

theorem mcs_len3 (l : List Mrg) : (mcs l).length = l.length * 3 := flat_len (f := mrg1) (k := 3) (fun _ => rfl) l
theorem wCloneS (A : Option Addr) (c : Nat) (l : List (List UInt8)) (w : World) (hA : Cs w A (l.map sv)) (hl : l.length ≤ 1000000) :
    CallsF Try.prog 79 [.slice A l.length c] w fun r w' => Own w' 9 1 r l.length (l.map sv) ∧ (∀ g, r.ownBlock = some g → w.heap.size ≤ g) ∧ Fr no w w' := by
  refine callsF Try.func79 rfl rfl (by decide) rfl ?_
  cases A with
  | none =>
    have : l = [] := List.map_eq_nil_iff.1 (cs_nil hA)
    subst this
    refine sA [] rfl ?_
    exact ret1 (.inr rfl) rfl rfl ⟨Own.nil _ _ _, (fun g hg => by cases hg), Fr.refl _ _⟩
  | some a =>
    refine sA [] rfl ?_
    refine ev_buildSlice tabOk rfl rfl rfl inf9 rfl rfl rfl (by simp) rfl (fun q w1 hq hb1 hf1 => ?_)
    have ho1 : Own w1 9 1 (.slice (some ⟨q, 0, none⟩) 0 0) 0 [] := own_of_blk (m := 0) (sz := 1) hb1 rfl (by omega)
    refine sA [] rfl ?_
    refine ev_append (xs := []) (A := some a) (m := l.length) (c := c) (news := l.map sv) tabOk rfl rfl rfl inf9 rfl (by omega) rfl rfl ho1 (hA.fr0 hf1) (by simp) (fun u hu => by obtain ⟨t, _, rfl⟩ := List.mem_map.1 hu; rfl) (by omega) (fun v2 w2 ho2 hf2 hn2 => ?_)
    have hn2 := NB.of hn2
    rw [Nat.zero_add, List.nil_append] at ho2
    refine sA [] rfl ?_
    exact ret1 (.inr rfl) rfl rfl ⟨ho2, fun g hg => by
      rcases hn2 g hg with h | h
      · cases h; exact hq
      · have := hf1.size; omega, hf1.trans hf2 fun z hz e => by have e : some q = some z := e; cases e; omega⟩
theorem wClone8 (A : Option Addr) (c : Nat) (l : List Int8) (w : World) (hA : Cs w A (l.map i8v)) (hl : l.length ≤ 1000000) :
    CallsF Try.prog 82 [.slice A l.length c] w fun r w' => Own w' 60 1 r l.length (l.map i8v) ∧ (∀ g, r.ownBlock = some g → w.heap.size ≤ g) ∧ Fr no w w' := by
  refine callsF Try.func82 rfl rfl (by decide) rfl ?_
  cases A with
  | none =>
    have : l = [] := List.map_eq_nil_iff.1 (cs_nil hA)
    subst this
    refine sA [] rfl ?_
    exact ret1 (.inr rfl) rfl rfl ⟨Own.nil _ _ _, (fun g hg => by cases hg), Fr.refl _ _⟩
  | some a =>
    refine sA [] rfl ?_
    refine ev_buildSlice tabOk rfl rfl rfl inf60 rfl rfl rfl (by simp) rfl (fun q w1 hq hb1 hf1 => ?_)
    have ho1 : Own w1 60 1 (.slice (some ⟨q, 0, none⟩) 0 0) 0 [] := own_of_blk (m := 0) (sz := 1) hb1 rfl (by omega)
    refine sA [] rfl ?_
    refine ev_append (xs := []) (A := some a) (m := l.length) (c := c) (news := l.map i8v) tabOk rfl rfl rfl inf60 rfl (by omega) rfl rfl ho1 (hA.fr0 hf1) (by simp) (fun u hu => by obtain ⟨t, _, rfl⟩ := List.mem_map.1 hu; rfl) (by omega) (fun v2 w2 ho2 hf2 hn2 => ?_)
    have hn2 := NB.of hn2
    rw [Nat.zero_add, List.nil_append] at ho2
    refine sA [] rfl ?_
    exact ret1 (.inr rfl) rfl rfl ⟨ho2, fun g hg => by
      rcases hn2 g hg with h | h
      · cases h; exact hq
      · have := hf1.size; omega, hf1.trans hf2 fun z hz e => by have e : some q = some z := e; cases e; omega⟩
theorem wCloneM (A : Option Addr) (c : Nat) (l : List Mrg) (w : World) (hA : Cs w A (mcs l)) (hl : l.length ≤ 1000000) :
    CallsF Try.prog 80 [.slice A l.length c] w fun r w' => Own w' 62 3 r l.length (mcs l) ∧ (∀ g, r.ownBlock = some g → w.heap.size ≤ g) ∧ Fr no w w' := by
  refine callsF Try.func80 rfl rfl (by decide) rfl ?_
  cases A with
  | none =>
    have : l = [] := (by have h := congrArg List.length (cs_nil hA); rw [mcs_len3] at h; exact List.eq_nil_of_length_eq_zero (by simp at h; omega))
    subst this
    refine sA [] rfl ?_
    exact ret1 (.inr rfl) rfl rfl ⟨Own.nil _ _ _, (fun g hg => by cases hg), Fr.refl _ _⟩
  | some a =>
    refine sA [] rfl ?_
    refine ev_buildSlice tabOk rfl rfl rfl inf62 rfl rfl rfl (by simp) rfl (fun q w1 hq hb1 hf1 => ?_)
    have ho1 : Own w1 62 3 (.slice (some ⟨q, 0, none⟩) 0 0) 0 [] := own_of_blk (m := 0) (sz := 3) hb1 rfl (by omega)
    refine sA [] rfl ?_
    refine ev_append (xs := []) (A := some a) (m := l.length) (c := c) (news := mcs l) tabOk rfl rfl rfl inf62 rfl (by omega) rfl rfl ho1 (hA.fr0 hf1) (by rw [mcs_len3]) (fun u hu => by obtain ⟨t, _, hu⟩ := List.mem_flatMap.1 hu; simp [mrg1] at hu; rcases hu with rfl | rfl | rfl <;> rfl) (by omega) (fun v2 w2 ho2 hf2 hn2 => ?_)
    have hn2 := NB.of hn2
    rw [Nat.zero_add, List.nil_append] at ho2
    refine sA [] rfl ?_
    exact ret1 (.inr rfl) rfl rfl ⟨ho2, fun g hg => by
      rcases hn2 g hg with h | h
      · cases h; exact hq
      · have := hf1.size; omega, hf1.trans hf2 fun z hz e => by have e : some q = some z := e; cases e; omega⟩
theorem wCloneB (A : Option Addr) (c : Nat) (l : List (Bk Rw)) (w : World) (hA : Cs w A (l.flatMap bkC)) (hl : l.length ≤ 1000000) :
    CallsF Try.prog 81 [.slice A l.length c] w fun r w' => Own w' 59 17 r l.length (l.flatMap bkC) ∧ (∀ g, r.ownBlock = some g → w.heap.size ≤ g) ∧ Fr no w w' := by
  refine callsF Try.func81 rfl rfl (by decide) rfl ?_
  cases A with
  | none =>
    have : l = [] := (by have h := congrArg List.length (cs_nil hA); rw [flat_len bkC_len] at h; exact List.eq_nil_of_length_eq_zero (by simp at h; omega))
    subst this
    refine sA [] rfl ?_
    exact ret1 (.inr rfl) rfl rfl ⟨Own.nil _ _ _, (fun g hg => by cases hg), Fr.refl _ _⟩
  | some a =>
    refine sA [] rfl ?_
    refine ev_buildSlice tabOk rfl rfl rfl inf59 rfl rfl rfl (by simp) rfl (fun q w1 hq hb1 hf1 => ?_)
    have ho1 : Own w1 59 17 (.slice (some ⟨q, 0, none⟩) 0 0) 0 [] := own_of_blk (m := 0) (sz := 17) hb1 rfl (by omega)
    refine sA [] rfl ?_
    refine ev_append (xs := []) (A := some a) (m := l.length) (c := c) (news := l.flatMap bkC) tabOk rfl rfl rfl inf59 rfl (by omega) rfl rfl ho1 (hA.fr0 hf1) (by rw [flat_len bkC_len]) (fun u hu => by obtain ⟨t, _, hu⟩ := List.mem_flatMap.1 hu; exact allOne_ok (l := bkC t) rfl u hu) (by omega) (fun v2 w2 ho2 hf2 hn2 => ?_)
    have hn2 := NB.of hn2
    rw [Nat.zero_add, List.nil_append] at ho2
    refine sA [] rfl ?_
    exact ret1 (.inr rfl) rfl rfl ⟨ho2, fun g hg => by
      rcases hn2 g hg with h | h
      · cases h; exact hq
      · have := hf1.size; omega, hf1.trans hf2 fun z hz e => by have e : some q = some z := e; cases e; omega⟩
theorem wCloneR (r : Rw) (w : World) (hA : r.At w) (hl : r.xs.length ≤ 1000000) :
    CallsF Try.prog 82 [r.v] w fun v w' => ∃ y : Rw, v = y.v ∧ y.xs = r.xs ∧ OR w w' y ∧ Fr no w w' := by
  refine (wClone8 r.A r.c r.xs w hA hl).mono ?_
  rintro v w' ⟨ho, hn, hf⟩
  obtain ⟨A, c, rfl, _, _⟩ := ho.slice
  exact ⟨⟨A, c, r.xs⟩, rfl, rfl, ⟨ho, hn⟩, hf⟩

/-- a model that is being copied: the box at p1, the answer at p2, the blocks B, the rows Q that are one's own -/
structure OS (wi w0 w : World) (p1 p2 : Nat) (m : LM) (cells : List Value) (bv mv tv : Value) (Q : List Rw) (B : List (Bk Rw)) : Prop where
  k1 : Blk w p1 cells 31
  k2 : Blk w p2 (lmC zM) 31
  om : OM w0 w bv mv tv Q
  tx : Own w 9 1 tv m.V.texts.length (m.V.texts.map sv)
  mg : Own w 62 3 mv m.V.merges.length (mcs m.V.merges)
  bk : Own w 59 17 bv B.length (B.flatMap bkC)
  fr : Fr no wi w
  sz : w0.heap.size ≤ w.heap.size
  lt : p1 < w0.heap.size ∧ p2 < w0.heap.size
  ge : wi.heap.size ≤ p1 ∧ wi.heap.size ≤ p2 ∧ wi.heap.size ≤ w0.heap.size
  ne : p1 ≠ p2
section
variable {wi w0 w w' : World} {p1 p2 : Nat} {m : LM} {cells cells' : List Value} {bv mv tv : Value} {Q : List Rw} {B B' : List (Bk Rw)}
theorem OS.fr0 (h : OS wi w0 w p1 p2 m cells bv mv tv Q B) (hf : Fr no w w') : OS wi w0 w' p1 p2 m cells bv mv tv Q B :=
  ⟨h.k1.fr0 hf, h.k2.fr0 hf, h.om.fr0 hf, h.tx.fr0 hf, h.mg.fr0 hf, h.bk.fr0 hf, h.fr.tr hf, Nat.le_trans h.sz hf.size, h.lt, h.ge, h.ne⟩
theorem OS.row (h : OS wi w0 w p1 p2 m cells bv mv tv Q B) {y : Rw} (hy : OR w w' y) (hf : Fr no w w') : OS wi w0 w' p1 p2 m cells bv mv tv (Q ++ [y]) B :=
  have h' := h.fr0 hf
  ⟨h'.k1, h'.k2, h.om.app hf (NR.one hy) h.sz, h'.tx, h'.mg, h'.bk, h'.fr, h'.sz, h.lt, h.ge, h.ne⟩
theorem OS.old (h : OS wi w0 w p1 p2 m cells bv mv tv Q B) {b : Nat} (hb : b < w0.heap.size) : (∀ r ∈ Q, ∀ g, r.v.ownBlock = some g → ¬ g = b) ∧ ∀ v ∈ [bv, mv, tv], ∀ g, v.ownBlock = some g → ¬ g = b :=
  ⟨h.om.q.ge hb, fun v hv g hg e => by have := (h.om.lo v hv g hg).1; omega⟩
/-- the box is written -/
theorem OS.set (h : OS wi w0 w p1 p2 m cells bv mv tv Q B) (hk : Blk w' p1 cells' 31) (hf : Fr (fun c => c = p1) w w') : OS wi w0 w' p1 p2 m cells' bv mv tv Q B := by
  obtain ⟨o1, o2⟩ := h.old h.lt.1
  have hg := h.ge.1
  exact ⟨hk, h.k2.fr hf (fun e => h.ne e.symm), h.om.fr hf o1, h.tx.fr hf (o2 tv (by simp)), h.mg.fr hf (o2 mv (by simp)), h.bk.fr hf (o2 bv (by simp)), h.fr.trans hf fun z hz e => by have e : z = p1 := e; omega, Nat.le_trans h.sz hf.size, h.lt, h.ge, h.ne⟩
/-- the answer is written -/
theorem OS.out (h : OS wi w0 w p1 p2 m cells bv mv tv Q B) (hf : Fr (fun c => c = p2) w w') :
    OM w0 w' bv mv tv Q ∧ Own w' 9 1 tv m.V.texts.length (m.V.texts.map sv) ∧ Own w' 62 3 mv m.V.merges.length (mcs m.V.merges) ∧ Own w' 59 17 bv B.length (B.flatMap bkC) ∧ Fr no wi w' := by
  obtain ⟨o1, o2⟩ := h.old h.lt.2
  have hg := h.ge.2.1
  exact ⟨h.om.fr hf o1, h.tx.fr hf (o2 tv (by simp)), h.mg.fr hf (o2 mv (by simp)), h.bk.fr hf (o2 bv (by simp)), h.fr.trans hf fun z hz e => by have e : z = p2 := e; omega⟩
/-- the blocks' row is written -/
theorem OS.setB (h : OS wi w0 w p1 p2 m cells bv mv tv Q B) {g : Nat} (hg : bv.ownBlock = some g) (hl : B'.length = B.length) (hB : Own w' 59 17 bv B.length (B'.flatMap bkC)) (hf : Fr (fun c => c = g) w w') : OS wi w0 w' p1 p2 m cells bv mv tv Q B' := by
  have hlo := h.om.lo bv (by simp) g hg
  have l1 := h.lt.1
  have l2 := h.lt.2
  have g3 := h.ge.2.2
  refine ⟨h.k1.fr hf (fun e => by omega), h.k2.fr hf (fun e => by omega), h.om.fr hf (fun r hr z hz e => hlo.2.2 r hr (by have e : z = g := e; rw [← e]; exact hz)), h.tx.fr hf (fun z hz e => (h.om.tm z hz).2 (by have e : z = g := e; rw [e]; exact hg)), h.mg.fr hf (fun z hz e => h.om.mb z hz (by have e : z = g := e; rw [e]; exact hg)), by rw [hl]; exact hB, h.fr.trans hf fun z hz e => by have e : z = g := e; omega, Nat.le_trans h.sz hf.size, h.lt, h.ge, h.ne⟩
end
theorem mid_set (D : List (Bk Rw)) (x x' : Bk Rw) (R : List (Bk Rw)) {o : Nat} (ho : o < 17) {v : Value} (h : (bkC x).set o v = bkC x') : ((D ++ x :: R).flatMap bkC).set (D.length * 17 + o) v = (D ++ x' :: R).flatMap bkC := by
  have e := flat_set o ho v (D ++ x :: R) D.length (by simp)
  rw [e, List.take_left, List.getElem_append_right (Nat.le_refl _)]
  simp only [Nat.sub_self, List.getElem_cons_zero, h]
  rw [List.flatMap_append, List.flatMap_cons, show (D ++ x :: R).drop (D.length + 1) = R by rw [List.drop_append]; simp]
theorem mid_at (D : List (Bk Rw)) (x : Bk Rw) (R : List (Bk Rw)) {o : Nat} {v : Value} (h : (bkC x)[o]? = some v) : ((D ++ x :: R).flatMap bkC)[D.length * 17 + o]? = some v :=
  flat_at bkC_len (x := x) (by rw [List.getElem?_append_right (Nat.le_refl _), Nat.sub_self]; rfl) h
theorem frsF_at (b : Bk Rw) (q o : Nat) : ∀ k (h : k < 9), ∃ j, [ptA q (o + 0), ptA q (o + 1), ptA q (o + 2), ptA q (o + 3), ptA q (o + 4), ptA q (o + 5), ptA q (o + 11 + 0), ptA q (o + 11 + 1), ptA q (o + 11 + 2)][k]? = some (ptA q (o + j)) ∧ j < 17 ∧ (∀ x : Rw, (bkC b).set j x.v = bkC (setF b k x)) ∧ (bkC b)[j]? = some ((b.frs.getD k zB).v) := fun k h => by
  match k, h with
  | 0, _ => exact ⟨0, rfl, by decide, fun _ => rfl, rfl⟩
  | 1, _ => exact ⟨1, rfl, by decide, fun _ => rfl, rfl⟩
  | 2, _ => exact ⟨2, rfl, by decide, fun _ => rfl, rfl⟩
  | 3, _ => exact ⟨3, rfl, by decide, fun _ => rfl, rfl⟩
  | 4, _ => exact ⟨4, rfl, by decide, fun _ => rfl, rfl⟩
  | 5, _ => exact ⟨5, rfl, by decide, fun _ => rfl, rfl⟩
  | 6, _ => exact ⟨11, rfl, by decide, fun _ => rfl, rfl⟩
  | 7, _ => exact ⟨12, rfl, by decide, fun _ => rfl, rfl⟩
  | 8, _ => exact ⟨13, rfl, by decide, fun _ => rfl, rfl⟩
  | k + 9, h => exact absurd h (by omega)
theorem putF_getD (b : Bk Rw) : ∀ L : List Rw, L.length < 9 → (putF b 0 L).frs.getD L.length zB = b.frs.getD L.length zB := fun L h => by
  match L, h with
  | [], _ => rfl
  | [_], _ => rfl
  | [_, _], _ => rfl
  | [_, _, _], _ => rfl
  | [_, _, _, _], _ => rfl
  | [_, _, _, _, _], _ => rfl
  | [_, _, _, _, _, _], _ => rfl
  | [_, _, _, _, _, _, _], _ => rfl
  | [_, _, _, _, _, _, _, _], _ => rfl
  | _ :: _ :: _ :: _ :: _ :: _ :: _ :: _ :: _ :: _, h => simp at h; omega
theorem own_atz {w : World} {e sz n c i : Nat} {A : Option Addr} {cs : List Value} (h : Own w e sz (.slice A n c) n cs) (hi : i < n) : ∃ g, A = some ⟨g, 0, none⟩ ∧ (Value.slice A n c).ownBlock = some g := by
  rcases h.2 with ⟨e2, h0⟩ | ⟨g, cap, cur, e2, _⟩
  · omega
  · injection e2 with e3
    exact ⟨g, e3, by rw [e3]; rfl⟩
theorem own_apartz {w : World} {e1 e2 s1 s2 : Nat} {v1 v2 : Value} {n1 n2 : Nat} {x1 x2 : List Value} (h1 : Own w e1 s1 v1 n1 x1) (h2 : Own w e2 s2 v2 n2 x2) (he : e1 ≠ e2) : ∀ g, v1.ownBlock = some g → v2.ownBlock ≠ some g := by
  intro g hg hg2
  rcases h1.2 with ⟨rfl, _⟩ | ⟨q1, c1, k1, rfl, _, hq1, _⟩
  · cases hg
  rcases h2.2 with ⟨rfl, _⟩ | ⟨q2, c2, k2, rfl, _, hq2, _⟩
  · cases hg2
  simp only [Value.ownBlock, Option.some.injEq] at hg hg2
  subst hg hg2
  rw [hq1] at hq2
  simp only [Option.some.injEq, Obj.cells.injEq] at hq2
  exact he hq2.2.1
theorem shp_of {w : World} {p : Nat} {s : Shp} {tv mv e c n bv b g u : Value} {es ls : Int} {T : TypeId} (h : Blk w p (ofC s tv mv e es c n bv b g u ls) T) : Cs w (some ⟨p, 0 + 0, none⟩) (shpC s) := (Cs.of_blk h).part 0 fun j u hj => by
  match j, hj with
  | 0, h => exact h
  | 1, h => exact h
  | 2, h => exact h
  | 3, h => exact h
  | 4, h => exact h
  | 5, h => exact h
  | n + 6, h => simp at h
theorem setF_shs (b : Bk Rw) (x : Rw) : ∀ k, (setF b k x).shs = b.shs
  | 0 => rfl
  | 1 => rfl
  | 2 => rfl
  | 3 => rfl
  | 4 => rfl
  | 5 => rfl
  | 6 => rfl
  | 7 => rfl
  | 8 => rfl
  | k + 9 => rfl
/-- a block with other rows -/
theorem bk_ext {b b' : Bk Rw} (h1 : b.shs = b'.shs) (h2 : b.frs.map Rw.xs = b'.frs.map Rw.xs) : pBk b = pBk b' := by
  obtain ⟨a1, a2, a3, a4, a5, a6, n1, n2, n3, n4, n5, c1, c2, c3, s1, s2, s3⟩ := b
  obtain ⟨b1, b2, b3, b4, b5, b6, m1, m2, m3, m4, m5, d1, d2, d3, t1, t2, t3⟩ := b'
  simp only [Bk.shs, List.cons.injEq, and_true] at h1
  obtain ⟨rfl, rfl, rfl, rfl, rfl, rfl, rfl, rfl⟩ := h1
  simp only [Bk.frs, List.map_cons, List.map_nil, List.cons.injEq, and_true] at h2
  obtain ⟨e1, e2, e3, e4, e5, e6, e7, e8, e9⟩ := h2
  simp only [pBk, Bk.map, e1, e2, e3, e4, e5, e6, e7, e8, e9]
set_option maxHeartbeats 32000000 in
set_option maxRecDepth 10000 in
theorem wOwned (m : LM) (w : World) (hm : m.At w) (hV : VM m.p) :
    CallsF Try.prog 53 [lmV m] w fun r w' => ∃ m' : LM, r = lmV m' ∧ m'.p = m.p ∧ OwnS w w' m' := by
  obtain ⟨⟨r1, r2, r3, r4, r5, r6⟩, hrb⟩ := vm_rows hV
  have hlay : m.bs.length ≤ 8 := by
    have h1 : ((m.p.bs).length : Int) = m.s.lay := hV.lay
    have h2 := hV.s.2.2.2.2.2.2.1.2
    have h2 : m.s.lay ≤ 8 := h2
    rw [show (m.p.bs).length = m.bs.length from List.length_map _] at h1
    omega
  have htf : m.V.texts.length ≤ 1000000 := by have := hV.V.few; have h : m.V.texts.length ≤ _ := this; omega
  have hmf : m.V.merges.length ≤ 1000000 := by have := hV.V.fewM; have h : m.V.merges.length ≤ _ := this; omega
  obtain ⟨d1, d2⟩ : _ ≤ m.s.dim ∧ m.s.dim ≤ _ := hV.s.2.2.1
  obtain ⟨h1, h2⟩ : _ ≤ m.s.hid ∧ m.s.hid ≤ _ := hV.s.2.2.2.2.2.2.2
  refine callsF Try.func53 rfl rfl (by decide) rfl ?_
  refine sA [] rfl ?_
  refine ev_box rfl rfl rfl fun p1 wa hp1 k1 f1 => ?_
  refine ev_alloc rfl rfl inf31 (fun p2 w0 hp2 k2 f2 => ?_)
  have l1a : p1 < wa.heap.size := Blk.lt k1
  have k1 : Blk w0 p1 (lmC m) 31 := Blk.fr0 k1 f2
  have k2 : Blk w0 p2 (lmC zM) 31 := k2
  have l1 := k1.lt
  have l2 := k2.lt
  have s1 := f1.size
  have s2 := f2.size
  have hF := f1.tr f2
  have hne : p1 ≠ p2 := fun e => by omega
  refine sA [] rfl ?_
  refine ev_join1 (α := Value × Value) (fun z => [(1, ptA p1 0), (2, ptA p2 0)])
    (fun z w' => Blk w' p1 (ofC m.s z.1 z.2 m.e.v m.es m.cos.v m.sin.v (.slice m.bA m.bs.length m.bc) m.bend.v m.gain.v m.un.v m.ls) 31 ∧ Own w' 9 1 z.1 m.V.texts.length (m.V.texts.map sv) ∧ Own w' 62 3 z.2 m.V.merges.length (mcs m.V.merges) ∧ (∀ g, z.1.ownBlock = some g → w0.heap.size ≤ g) ∧ (∀ g, z.2.ownBlock = some g → w0.heap.size ≤ g) ∧ Fr (fun c => c = p1) w0 w') ?_ ?_
  · refine mix_in mixed (fun wm g0 => ?_)
    have k1 := k1.fr0 g0
    have G := g0
    refine mA rfl (by kernel_rfl) (by kernel_rfl) ?_

    refine mix2 rfl rfl rfl ?_ ?_
    · refine ev_load rfl rfl tabOk rfl rfl (k1.cell rfl) ?_
      refine mix_op ?_
      refine mix2 rfl rfl rfl ?_ ?_
      · refine ev_call rfl rfl rfl (wCloneS m.tA m.tc m.V.texts _ (hm.fr0 (hF.tr G)).voc.1 htf) ?_
        rintro tv wt ⟨hot, hnt, ft⟩
        have hnt : ∀ g, tv.ownBlock = some g → w0.heap.size ≤ g := fun g hg => Nat.le_trans G.size (hnt g hg)
        have k1 := k1.fr0 ft
        have G := G.tr ft
        refine mix_op ?_
        refine mix1 rfl rfl ?_
        refine ev_load rfl rfl tabOk rfl rfl (k1.cell rfl) ?_
        refine mix_op ?_
        refine mix1 rfl rfl ?_
        refine ev_call rfl rfl rfl (wCloneM m.mA m.mc m.V.merges _ (hm.fr0 (hF.tr G)).voc.2 hmf) ?_
        rintro mv wn ⟨hom, hnm, fn⟩
        have hnm : ∀ g, mv.ownBlock = some g → w0.heap.size ≤ g := fun g hg => Nat.le_trans G.size (hnm g hg)
        have hot := hot.fr0 fn
        have k1 := k1.fr0 fn
        have G := G.tr fn
        refine mix_op ?_
        refine mA rfl (by kernel_rfl) (by kernel_rfl) ?_
        refine mix1 rfl rfl ?_
        refine ev_store tabOk rfl rfl rfl rfl rfl (own1 hot) k1 rfl (fun wc kc fc => ?_)
        have hot := hot.fr fc (fun g hg e => by have := hnt g hg; have e : g = p1 := e; omega)
        have hom := hom.fr fc (fun g hg e => by have := hnm g hg; have e : g = p1 := e; omega)
        have G := G.tr0 fc
        refine mix_op ?_
        refine mA rfl (by kernel_rfl) (by kernel_rfl) ?_
        refine mix1 rfl rfl ?_
        refine ev_store tabOk rfl rfl rfl rfl rfl (own1 hom) kc rfl (fun wd kd fd => ?_)
        have hot := hot.fr fd (fun g hg e => by have := hnt g hg; have e : g = p1 := e; omega)
        have hom := hom.fr fd (fun g hg e => by have := hnm g hg; have e : g = p1 := e; omega)
        refine mix_op ?_
        refine mix_out rfl ?_
        exact ev_out (tv, mv) ⟨kd, hot, hom, hnt, hnm, G.trans fd fun _ _ e => e⟩ ⟨rfl, rfl, trivial⟩
      · refine ev_load rfl rfl tabOk rfl rfl (k1.cell rfl) ?_
        refine mix_op ?_
        refine mix1 rfl rfl ?_
        refine ev_call rfl rfl rfl (wCloneS m.tA m.tc m.V.texts _ (hm.fr0 (hF.tr G)).voc.1 htf) ?_
        rintro tv wt ⟨hot, hnt, ft⟩
        have hnt : ∀ g, tv.ownBlock = some g → w0.heap.size ≤ g := fun g hg => Nat.le_trans G.size (hnt g hg)
        have k1 := k1.fr0 ft
        have G := G.tr ft
        refine mix_op ?_
        refine mix1 rfl rfl ?_
        refine ev_call rfl rfl rfl (wCloneM m.mA m.mc m.V.merges _ (hm.fr0 (hF.tr G)).voc.2 hmf) ?_
        rintro mv wn ⟨hom, hnm, fn⟩
        have hnm : ∀ g, mv.ownBlock = some g → w0.heap.size ≤ g := fun g hg => Nat.le_trans G.size (hnm g hg)
        have hot := hot.fr0 fn
        have k1 := k1.fr0 fn
        have G := G.tr fn
        refine mix_op ?_
        refine mA rfl (by kernel_rfl) (by kernel_rfl) ?_
        refine mix1 rfl rfl ?_
        refine ev_store tabOk rfl rfl rfl rfl rfl (own1 hot) k1 rfl (fun wc kc fc => ?_)
        have hot := hot.fr fc (fun g hg e => by have := hnt g hg; have e : g = p1 := e; omega)
        have hom := hom.fr fc (fun g hg e => by have := hnm g hg; have e : g = p1 := e; omega)
        have G := G.tr0 fc
        refine mix_op ?_
        refine mA rfl (by kernel_rfl) (by kernel_rfl) ?_
        refine mix1 rfl rfl ?_
        refine ev_store tabOk rfl rfl rfl rfl rfl (own1 hom) kc rfl (fun wd kd fd => ?_)
        have hot := hot.fr fd (fun g hg e => by have := hnt g hg; have e : g = p1 := e; omega)
        have hom := hom.fr fd (fun g hg e => by have := hnm g hg; have e : g = p1 := e; omega)
        refine mix_op ?_
        refine mix_out rfl ?_
        exact ev_out (tv, mv) ⟨kd, hot, hom, hnt, hnm, G.trans fd fun _ _ e => e⟩ ⟨rfl, rfl, trivial⟩
    · refine ev_load rfl rfl tabOk rfl rfl (k1.cell rfl) ?_
      refine mix_op ?_
      refine mix1 rfl rfl ?_
      refine ev_load rfl rfl tabOk rfl rfl (k1.cell rfl) ?_
      refine mix_op ?_
      refine mix1 rfl rfl ?_
      refine ev_call rfl rfl rfl (wCloneS m.tA m.tc m.V.texts _ (hm.fr0 (hF.tr G)).voc.1 htf) ?_
      rintro tv wt ⟨hot, hnt, ft⟩
      have hnt : ∀ g, tv.ownBlock = some g → w0.heap.size ≤ g := fun g hg => Nat.le_trans G.size (hnt g hg)
      have k1 := k1.fr0 ft
      have G := G.tr ft
      refine mix_op ?_
      refine mix1 rfl rfl ?_
      refine ev_call rfl rfl rfl (wCloneM m.mA m.mc m.V.merges _ (hm.fr0 (hF.tr G)).voc.2 hmf) ?_
      rintro mv wn ⟨hom, hnm, fn⟩
      have hnm : ∀ g, mv.ownBlock = some g → w0.heap.size ≤ g := fun g hg => Nat.le_trans G.size (hnm g hg)
      have hot := hot.fr0 fn
      have k1 := k1.fr0 fn
      have G := G.tr fn
      refine mix_op ?_
      refine mA rfl (by kernel_rfl) (by kernel_rfl) ?_
      refine mix1 rfl rfl ?_
      refine ev_store tabOk rfl rfl rfl rfl rfl (own1 hot) k1 rfl (fun wc kc fc => ?_)
      have hot := hot.fr fc (fun g hg e => by have := hnt g hg; have e : g = p1 := e; omega)
      have hom := hom.fr fc (fun g hg e => by have := hnm g hg; have e : g = p1 := e; omega)
      have G := G.tr0 fc
      refine mix_op ?_
      refine mA rfl (by kernel_rfl) (by kernel_rfl) ?_
      refine mix1 rfl rfl ?_
      refine ev_store tabOk rfl rfl rfl rfl rfl (own1 hom) kc rfl (fun wd kd fd => ?_)
      have hot := hot.fr fd (fun g hg e => by have := hnt g hg; have e : g = p1 := e; omega)
      have hom := hom.fr fd (fun g hg e => by have := hnm g hg; have e : g = p1 := e; omega)
      refine mix_op ?_
      refine mix_out rfl ?_
      exact ev_out (tv, mv) ⟨kd, hot, hom, hnt, hnm, G.trans fd fun _ _ e => e⟩ ⟨rfl, rfl, trivial⟩
  rintro ⟨tv, mv⟩ wb ⟨k1, hot, hom, hnt, hnm, G⟩
  simp only at k1 hot hom hnt hnm
  have hpw1 : w.heap.size ≤ p1 := hp1
  have hpw2 : w.heap.size ≤ p2 := by omega
  have hFb : Fr no w wb := hF.trans G fun z hz e => by have e : z = p1 := e; omega
  have k2 := k2.fr G (fun e => hne e.symm)
  have sG := G.size
  refine sA [] rfl ?_; refine ev_loadB rfl rfl tabOk rfl rfl ‹_› (by rfl) ?_
  refine ev_call rfl rfl rfl (wCloneB m.bA m.bc m.bs _ (hm.fr0 hFb).blk (by omega)) ?_
  rintro bv wc ⟨hob, hnb, fc⟩
  have k1 := k1.fr0 fc
  have k2 := k2.fr0 fc
  have hot := hot.fr0 fc
  have hom := hom.fr0 fc
  have sc := fc.size
  have hFc := hFb.tr fc
  refine sA [] rfl ?_
  refine ev_store tabOk rfl rfl rfl rfl rfl (own1 hob) k1 rfl (fun wd kd fd => ?_)
  have hob := hob.fr fd (fun g hg e => by have := hnb g hg; have e : g = p1 := e; omega)
  have hot := hot.fr fd (fun g hg e => by have := hnt g hg; have e : g = p1 := e; omega)
  have hom := hom.fr fd (fun g hg e => by have := hnm g hg; have e : g = p1 := e; omega)
  have M : OS w w0 wd p1 p2 m (ofC m.s tv mv m.e.v m.es m.cos.v m.sin.v bv m.bend.v m.gain.v m.un.v m.ls) bv mv tv [] m.bs := by
    refine ⟨kd, k2.fr fd (fun e => hne e.symm), ⟨NR.nil _ _, fun v hv g hg => ?_, fun g hg => ⟨own_apartz hot hom (by decide) g hg, own_apartz hot hob (by decide) g hg⟩, fun g hg => own_apartz hom hob (by decide) g hg⟩, hot, hom, hob, hFc.trans fd fun z hz e => by have e : z = p1 := e; omega, by have := fd.size; omega, ⟨l1, l2⟩, ⟨hpw1, hpw2, by omega⟩, hne⟩
    simp only [List.mem_cons, List.not_mem_nil, or_false] at hv
    rcases hv with rfl | rfl | rfl
    · exact ⟨by have := hnb g hg; omega, hob.lt hg, fun r hr => by cases hr⟩
    · exact ⟨hnm g hg, hom.lt hg, fun r hr => by cases hr⟩
    · exact ⟨hnt g hg, hot.lt hg, fun r hr => by cases hr⟩
  obtain ⟨bA, bc, rfl, _, _⟩ := hob.slice
  clear k1 k2 hot hom hob hnb hnt hnm G kd
  have k1 := M.k1
  refine sA [] rfl ?_; refine ev_loadB rfl rfl tabOk rfl rfl ‹_› (by rfl) ?_; refine sA [] rfl ?_
  refine ev_loop (α := List (Bk Rw)) (fun D => [(1, ptA p1 0), (2, ptA p2 0), (28, i64 m.bs.length), (29, i64 D.length)])
    (fun D w' => D.length ≤ m.bs.length ∧ D.map pBk = (m.bs.take D.length).map pBk ∧ OS w w0 w' p1 p2 m (ofC m.s tv mv m.e.v m.es m.cos.v m.sin.v (.slice bA m.bs.length bc) m.bend.v m.gain.v m.un.v m.ls) (.slice bA m.bs.length bc) mv tv (D.flatMap Bk.frs) (D ++ m.bs.drop D.length)) (fun D => m.bs.length - D.length) [] ⟨rfl, rfl, rfl, rfl, trivial⟩ ⟨Nat.zero_le _, rfl, M⟩ ?_
  clear M k1
  rintro D wl ⟨hD, hDp, M⟩
  have k1 := M.k1
  refine sC [] rfl ?_; refine sD [] rfl ?_
  refine ev_condD rfl (fun c => ?_) (fun c => ?_)
  · have hlt : D.length < m.bs.length := by omega
    have hdr : m.bs.drop D.length = m.bs[D.length] :: m.bs.drop (D.length + 1) := List.drop_eq_getElem_cons hlt
    have htk : m.bs.take (D.length + 1) = m.bs.take D.length ++ [m.bs[D.length]] := List.take_succ_eq_append_getElem hlt
    have hbm : m.bs[D.length] ∈ m.bs := List.getElem_mem hlt
    obtain ⟨b, hb⟩ : ∃ b, b = m.bs[D.length] := ⟨_, rfl⟩
    obtain ⟨R, hR⟩ : ∃ R, R = m.bs.drop (D.length + 1) := ⟨_, rfl⟩
    rw [← hb] at htk hbm
    rw [hdr, ← hb, ← hR] at M
    have hBl : ∀ x, (D ++ x :: R).length = m.bs.length := fun x => by rw [List.length_append, List.length_cons, hR, List.length_drop]; omega
    have hbk := M.bk
    rw [hBl] at hbk
    obtain ⟨gB, hgA, hgo⟩ := own_atz hbk hlt
    have hgl := hbk.lt hgo
    clear hbk
    refine sA [] rfl ?_
    refine mixC_in (fun w' => Blk w' p1 (ofC m.s tv mv m.e.v m.es m.cos.v m.sin.v (.slice bA m.bs.length bc) m.bend.v m.gain.v m.un.v m.ls) 31) mixed (fun u0 e0 => ?_)
    have M := M.fr0 e0
    refine mA rfl (by kernel_rfl) (by kernel_rfl) ?_
    refine m_loadAgg 1 rfl rfl rfl (by kernel_rfl) (by kernel_rfl) rfl rfl tabOk rfl rfl rfl (fun w' h => shp_of h) ?_
    refine m_load 3 rfl rfl rfl (by kernel_rfl) (by kernel_rfl) rfl rfl tabOk rfl rfl (fun w' h => h.cell rfl) ?_
    refine m_indexAddr 5 rfl rfl rfl (by kernel_rfl) (by kernel_rfl) rfl rfl tabOk (congrArg (fun z => some (Value.slice z m.bs.length bc)) hgA) rfl rfl (by omega) (by omega) ?_
    refine mix1 rfl rfl ?_ M.k1
    refine ev_call rfl rfl rfl (fLists m.s gB (0 + (D.length : Int).toNat * 17) u0 (by omega) (by omega)) ?_
    rintro r wm ⟨b3, c3, rfl, hb3, hc3, kb3, kc3, e3⟩
    have M := M.fr0 e3
    have se0 := e0.size
    refine mix_op ?_
    refine mA rfl (by kernel_rfl) (by kernel_rfl) ?_
    refine mix_out rfl ?_ M.k1
    clear k1 kc3
    have k1 := M.k1
    refine sA [] rfl ?_
    refine ev_loop (α := List Rw) (fun L => [(1, ptA p1 0), (2, ptA p2 0), (28, i64 m.bs.length), (29, i64 D.length), (42, .slice (some ⟨b3, 0, none⟩) 9 9), (43, i64 9), (44, i64 L.length)])
      (fun L w' => L.length ≤ 9 ∧ L.map Rw.xs = (b.frs.take L.length).map Rw.xs ∧ OS w w0 w' p1 p2 m (ofC m.s tv mv m.e.v m.es m.cos.v m.sin.v (.slice bA m.bs.length bc) m.bend.v m.gain.v m.un.v m.ls) (.slice bA m.bs.length bc) mv tv (D.flatMap Bk.frs ++ L) (D ++ putF b 0 L :: R) ∧ Fr (fun c => c = gB) wm w') (fun L => 9 - L.length) [] ⟨rfl, rfl, rfl, rfl, rfl, rfl, rfl, trivial⟩ ⟨Nat.zero_le _, rfl, by rw [List.append_nil]; exact M, Fr.refl _ _⟩ ?_
    clear M k1
    rintro L wn ⟨hL, hLx, M, g9⟩
    have kb4 := kb3.fr g9 (fun e => by omega)
    refine sC [] rfl ?_; refine sD [] rfl ?_
    refine ev_condD rfl (fun c2 => ?_) (fun c2 => ?_)
    · have h9 : L.length < 9 := by have c2 : (L.length : Int) < 9 := c2; omega
      obtain ⟨j, hj1, hj2, hj3, hj4⟩ := frsF_at (putF b 0 L) gB (0 + (D.length : Int).toNat * 17) L.length h9
      rw [putF_getD b L h9] at hj4
      obtain ⟨r0, hr0⟩ : ∃ r0, r0 = b.frs.getD L.length zB := ⟨_, rfl⟩
      rw [← hr0] at hj4
      have hfl : L.length < b.frs.length := h9
      have hrf : r0 ∈ b.frs := by rw [hr0, List.getD_eq_getElem?_getD, List.getElem?_eq_getElem hfl]; exact List.getElem_mem hfl
      have hrr : r0 ∈ b.rows := by
        have hrf : r0 = b.g1 ∨ r0 = b.q ∨ r0 = b.k ∨ r0 = b.v ∨ r0 = b.o ∨ r0 = b.g2 ∨ r0 = b.ga ∨ r0 = b.up ∨ r0 = b.dn := by simpa using hrf
        rcases hrf with h | h | h | h | h | h | h | h | h <;> simp [h]
      have hr0l : r0.xs.length ≤ 100000 := hrb (pBk b) (List.mem_map_of_mem hbm) r0.xs (by
        have hrf : r0 = b.g1 ∨ r0 = b.q ∨ r0 = b.k ∨ r0 = b.v ∨ r0 = b.o ∨ r0 = b.g2 ∨ r0 = b.ga ∨ r0 = b.up ∨ r0 = b.dn := by simpa using hrf
        rcases hrf with h | h | h | h | h | h | h | h | h <;> simp [h, Bk.map])
      have hcb2 : wn.cell? ⟨b3, 0 + (L.length : Int).toNat * 1, none⟩ = some (ptA gB (0 + (D.length : Int).toNat * 17 + j)) := kb4.cell (by rw [nthV_eq, show 0 + (L.length : Int).toNat * 1 = L.length by omega]; exact hj1)
      have hoff : 0 + (D.length : Int).toNat * 17 = D.length * 17 := by omega
      have hbk0 := M.bk
      rw [hBl] at hbk0
      have hbk := own_cs hbk0
      rw [hgA] at hbk
      have hrow : wn.cell? ⟨gB, 0 + (D.length : Int).toNat * 17 + j, none⟩ = some r0.v := by
        rw [hoff]
        have := hbk.at (mid_at D _ R hj4)
        rwa [Nat.zero_add] at this
      refine sA [] rfl ?_
      refine ev_indexAddr rfl rfl tabOk rfl rfl rfl (by omega) (by omega) ?_
      refine ev_load rfl rfl tabOk rfl rfl ‹_› ?_; refine sA [] rfl ?_; refine ev_load rfl rfl tabOk rfl rfl ‹_› ?_
      refine ev_call rfl rfl rfl (wCloneR r0 wn ((hm.fr0 M.fr).bs b hbm r0 hrr) (by omega)) ?_
      rintro r wo ⟨y, rfl, hyx, hyO, fo⟩
      have M := M.row hyO fo
      have hbk2 := M.bk
      rw [hBl] at hbk2
      refine sA [] rfl ?_
      refine ev_storeFlat tabOk rfl rfl rfl rfl rfl rfl hbk2 hgo (by omega) (fun wp hO f2 => ?_)
      rw [hoff, mid_set D _ _ R hj2 (hj3 y)] at hO
      have M := M.setB (B' := D ++ setF (putF b 0 L) L.length y :: R) hgo (by rw [hBl, hBl]) (by rw [hBl]; exact hO) f2
      refine sA [] rfl ?_; refine ev_arith rfl rfl rfl rfl rfl (by simp only [lowK, hiK]; omega) ?_; refine sA [] rfl ?_
      have hlen : (L ++ [y]).length = L.length + 1 := by rw [List.length_append]; rfl
      refine ev_next (L ++ [y]) (by rw [hlen]; omega) ⟨by rw [hlen]; omega, ?_, ?_, (g9.trans fo fun _ _ e => e.elim).trans f2 fun _ _ e => e⟩ ⟨rfl, rfl, rfl, rfl, rfl, rfl, by rw [hlen, show ((L.length + 1 : Nat) : Int) = (L.length : Int) + 1 by omega]; rfl, trivial⟩
      · rw [hlen, List.map_append, hLx, List.take_succ_eq_append_getElem hfl, List.map_append]
        show _ ++ [y.xs] = _ ++ [(b.frs[L.length]).xs]
        rw [hyx, hr0, List.getD_eq_getElem?_getD, List.getElem?_eq_getElem hfl]; rfl
      · rw [putF_snoc, Nat.zero_add, ← List.append_assoc]; exact M
    have h9 : L.length = 9 := by have c2 : ¬ (L.length : Int) < 9 := c2; omega
    obtain ⟨q0, q1, q2, q3, q4, q5, q6, q7, q8, rfl⟩ := nine9 h9
    obtain ⟨bk, hbk⟩ : ∃ bk, bk = putF b 0 [q0, q1, q2, q3, q4, q5, q6, q7, q8] := ⟨_, rfl⟩
    have hfr : bk.frs = [q0, q1, q2, q3, q4, q5, q6, q7, q8] := by rw [hbk]; rfl
    have hpk : pBk bk = pBk b := bk_ext (by rw [hbk]; rfl) (by rw [hfr, hLx]; rfl)
    rw [← hbk, ← hfr] at M
    refine sA [] rfl ?_; refine ev_arith rfl rfl rfl rfl rfl (by simp only [lowK, hiK]; omega) ?_; refine sA [] rfl ?_
    have hlen : (D ++ [bk]).length = D.length + 1 := by rw [List.length_append]; rfl
    refine ev_next (D ++ [bk]) (by rw [hlen]; omega) ⟨by rw [hlen]; omega, ?_, ?_⟩ ⟨rfl, rfl, rfl, by rw [hlen, show ((D.length + 1 : Nat) : Int) = (D.length : Int) + 1 by omega]; rfl, trivial⟩
    · rw [hlen, List.map_append, hDp, htk, List.map_append]
      show _ ++ [pBk bk] = _ ++ [pBk b]
      rw [hpk]
    · rw [hlen, ← hR, List.append_assoc, List.flatMap_append]
      simpa using M
  have hDn : D.length = m.bs.length := by have c : ¬ (D.length : Int) < m.bs.length := c; omega
  rw [hDn, List.drop_length, List.append_nil] at M
  rw [hDn, List.take_length] at hDp
  obtain ⟨Q, hQ⟩ : ∃ Q, Q = D.flatMap Bk.frs := ⟨_, rfl⟩
  rw [← hQ] at M
  clear k1
  refine sA [] rfl ?_
  refine ev_buildSlice tabOk rfl rfl rfl inf129 rfl rfl rfl (fun v hv => by simp at hv; rcases hv with rfl | rfl | rfl | rfl | rfl | rfl <;> rfl) rfl (fun q wq hq kq fq => ?_)
  have kq : Blk wq q [ptA p1 8, ptA p1 10, ptA p1 11, ptA p1 13, ptA p1 14, ptA p1 15] 129 := kq
  have hqp : q ≠ p1 := fun e => by
    have := M.lt.1
    have := M.sz
    omega
  have M := M.fr0 fq
  have k1 := M.k1
  refine sA [] rfl ?_
  refine ev_rounds 7 ?_
  have hcq0 : _ := kq.cell (o := 0) rfl
  refine sA [] rfl ?_
  refine ev_indexAddr rfl rfl tabOk rfl rfl rfl (by omega) (by omega) ?_
  refine ev_load rfl rfl tabOk rfl rfl ‹_› ?_; refine sA [] rfl ?_; refine ev_loadB rfl rfl tabOk rfl rfl ‹_› (by rfl) ?_
  refine ev_call rfl rfl rfl (wCloneR m.e _ ((hm.fr0 M.fr).rows m.e (by simp)) (by have h : m.e.xs.length ≤ 100000 := r1; omega)) ?_
  rintro r wo ⟨y0, rfl, hyx0, hyO, fo⟩
  have M := M.row hyO fo
  have kq := kq.fr0 fo
  clear k1
  have k1 := M.k1
  refine sA [] rfl ?_
  refine ev_store tabOk rfl rfl rfl rfl rfl rfl k1 rfl (fun wp k1p f2 => ?_)
  have M := M.set (cells' := ofC m.s tv mv y0.v m.es m.cos.v m.sin.v (.slice bA m.bs.length bc) m.bend.v m.gain.v m.un.v m.ls) k1p f2
  have kq := kq.fr f2 hqp
  clear k1 k1p hcq0
  have k1 := M.k1
  have hcq1 : _ := kq.cell (o := 1) rfl
  refine sA [] rfl ?_; refine ev_arith rfl rfl rfl rfl rfl (by simp only [lowK, hiK]; omega) ?_; refine sA [] rfl ?_
  refine ev_indexAddr rfl rfl tabOk rfl rfl rfl (by omega) (by omega) ?_
  refine ev_load rfl rfl tabOk rfl rfl ‹_› ?_; refine sA [] rfl ?_; refine ev_loadB rfl rfl tabOk rfl rfl ‹_› (by rfl) ?_
  refine ev_call rfl rfl rfl (wCloneR m.cos _ ((hm.fr0 M.fr).rows m.cos (by simp)) (by have h : m.cos.xs.length ≤ 100000 := r2; omega)) ?_
  rintro r wo ⟨y1, rfl, hyx1, hyO, fo⟩
  have M := M.row hyO fo
  have kq := kq.fr0 fo
  clear k1
  have k1 := M.k1
  refine sA [] rfl ?_
  refine ev_store tabOk rfl rfl rfl rfl rfl rfl k1 rfl (fun wp k1p f2 => ?_)
  have M := M.set (cells' := ofC m.s tv mv y0.v m.es y1.v m.sin.v (.slice bA m.bs.length bc) m.bend.v m.gain.v m.un.v m.ls) k1p f2
  have kq := kq.fr f2 hqp
  clear k1 k1p hcq1
  have k1 := M.k1
  have hcq2 : _ := kq.cell (o := 2) rfl
  refine sA [] rfl ?_; refine ev_arith rfl rfl rfl rfl rfl (by simp only [lowK, hiK]; omega) ?_; refine sA [] rfl ?_
  refine ev_indexAddr rfl rfl tabOk rfl rfl rfl (by omega) (by omega) ?_
  refine ev_load rfl rfl tabOk rfl rfl ‹_› ?_; refine sA [] rfl ?_; refine ev_loadB rfl rfl tabOk rfl rfl ‹_› (by rfl) ?_
  refine ev_call rfl rfl rfl (wCloneR m.sin _ ((hm.fr0 M.fr).rows m.sin (by simp)) (by have h : m.sin.xs.length ≤ 100000 := r3; omega)) ?_
  rintro r wo ⟨y2, rfl, hyx2, hyO, fo⟩
  have M := M.row hyO fo
  have kq := kq.fr0 fo
  clear k1
  have k1 := M.k1
  refine sA [] rfl ?_
  refine ev_store tabOk rfl rfl rfl rfl rfl rfl k1 rfl (fun wp k1p f2 => ?_)
  have M := M.set (cells' := ofC m.s tv mv y0.v m.es y1.v y2.v (.slice bA m.bs.length bc) m.bend.v m.gain.v m.un.v m.ls) k1p f2
  have kq := kq.fr f2 hqp
  clear k1 k1p hcq2
  have k1 := M.k1
  have hcq3 : _ := kq.cell (o := 3) rfl
  refine sA [] rfl ?_; refine ev_arith rfl rfl rfl rfl rfl (by simp only [lowK, hiK]; omega) ?_; refine sA [] rfl ?_
  refine ev_indexAddr rfl rfl tabOk rfl rfl rfl (by omega) (by omega) ?_
  refine ev_load rfl rfl tabOk rfl rfl ‹_› ?_; refine sA [] rfl ?_; refine ev_loadB rfl rfl tabOk rfl rfl ‹_› (by rfl) ?_
  refine ev_call rfl rfl rfl (wCloneR m.bend _ ((hm.fr0 M.fr).rows m.bend (by simp)) (by have h : m.bend.xs.length ≤ 100000 := r4; omega)) ?_
  rintro r wo ⟨y3, rfl, hyx3, hyO, fo⟩
  have M := M.row hyO fo
  have kq := kq.fr0 fo
  clear k1
  have k1 := M.k1
  refine sA [] rfl ?_
  refine ev_store tabOk rfl rfl rfl rfl rfl rfl k1 rfl (fun wp k1p f2 => ?_)
  have M := M.set (cells' := ofC m.s tv mv y0.v m.es y1.v y2.v (.slice bA m.bs.length bc) y3.v m.gain.v m.un.v m.ls) k1p f2
  have kq := kq.fr f2 hqp
  clear k1 k1p hcq3
  have k1 := M.k1
  have hcq4 : _ := kq.cell (o := 4) rfl
  refine sA [] rfl ?_; refine ev_arith rfl rfl rfl rfl rfl (by simp only [lowK, hiK]; omega) ?_; refine sA [] rfl ?_
  refine ev_indexAddr rfl rfl tabOk rfl rfl rfl (by omega) (by omega) ?_
  refine ev_load rfl rfl tabOk rfl rfl ‹_› ?_; refine sA [] rfl ?_; refine ev_loadB rfl rfl tabOk rfl rfl ‹_› (by rfl) ?_
  refine ev_call rfl rfl rfl (wCloneR m.gain _ ((hm.fr0 M.fr).rows m.gain (by simp)) (by have h : m.gain.xs.length ≤ 100000 := r5; omega)) ?_
  rintro r wo ⟨y4, rfl, hyx4, hyO, fo⟩
  have M := M.row hyO fo
  have kq := kq.fr0 fo
  clear k1
  have k1 := M.k1
  refine sA [] rfl ?_
  refine ev_store tabOk rfl rfl rfl rfl rfl rfl k1 rfl (fun wp k1p f2 => ?_)
  have M := M.set (cells' := ofC m.s tv mv y0.v m.es y1.v y2.v (.slice bA m.bs.length bc) y3.v y4.v m.un.v m.ls) k1p f2
  have kq := kq.fr f2 hqp
  clear k1 k1p hcq4
  have k1 := M.k1
  have hcq5 : _ := kq.cell (o := 5) rfl
  refine sA [] rfl ?_; refine ev_arith rfl rfl rfl rfl rfl (by simp only [lowK, hiK]; omega) ?_; refine sA [] rfl ?_
  refine ev_indexAddr rfl rfl tabOk rfl rfl rfl (by omega) (by omega) ?_
  refine ev_load rfl rfl tabOk rfl rfl ‹_› ?_; refine sA [] rfl ?_; refine ev_loadB rfl rfl tabOk rfl rfl ‹_› (by rfl) ?_
  refine ev_call rfl rfl rfl (wCloneR m.un _ ((hm.fr0 M.fr).rows m.un (by simp)) (by have h : m.un.xs.length ≤ 100000 := r6; omega)) ?_
  rintro r wo ⟨y5, rfl, hyx5, hyO, fo⟩
  have M := M.row hyO fo
  have kq := kq.fr0 fo
  clear k1
  have k1 := M.k1
  refine sA [] rfl ?_
  refine ev_store tabOk rfl rfl rfl rfl rfl rfl k1 rfl (fun wp k1p f2 => ?_)
  have M := M.set (cells' := ofC m.s tv mv y0.v m.es y1.v y2.v (.slice bA m.bs.length bc) y3.v y4.v y5.v m.ls) k1p f2
  have kq := kq.fr f2 hqp
  clear k1 k1p hcq5
  have k1 := M.k1
  refine sA [] rfl ?_; refine ev_arith rfl rfl rfl rfl rfl (by simp only [lowK, hiK]; omega) ?_; refine sA [] rfl ?_; refine ev_loadAggB rfl rfl tabOk rfl rfl ‹_› (by rfl) ?_
  obtain ⟨tA, tc, rfl, _, _⟩ := M.tx.slice
  obtain ⟨mA, mc, rfl, _, _⟩ := M.mg.slice
  have k2 := M.k2
  refine ev_storeAgg tabOk rfl rfl rfl rfl rfl rfl k2 rfl (fun wz kz fz => ?_)
  obtain ⟨o1, o2, o3, o4, o5⟩ := M.out fz
  refine sA [] rfl ?_
  obtain ⟨m', hm'⟩ : ∃ m' : LM, m' = ⟨m.s, tA, tc, mA, mc, m.V, y0, m.es, y1, y2, bA, bc, D, y3, y4, y5, m.ls⟩ := ⟨_, rfl⟩
  have hperm : (Q ++ [y0] ++ [y1] ++ [y2] ++ [y3] ++ [y4] ++ [y5]).Perm m'.all := by
    rw [hm', hQ]
    have p1 : (D.flatMap Bk.frs ++ [y0, y1, y2, y3, y4, y5]).Perm ([y0, y1, y2, y3, y4, y5] ++ D.flatMap Bk.frs) := List.perm_append_comm
    have p2 := (permM y0 y1 y2 y3 y4 y5 (D.flatMap Bk.frs))
    have p3 : ([y4, y1, y2, y3, y0] ++ D.flatMap Bk.frs ++ [y5]).Perm ([y4, y1, y2, y3, y0] ++ D.flatMap Bk.rows ++ [y5]) := ((frs_perm D).append_left _).append_right _
    have e : D.flatMap Bk.frs ++ [y0] ++ [y1] ++ [y2] ++ [y3] ++ [y4] ++ [y5] = D.flatMap Bk.frs ++ [y0, y1, y2, y3, y4, y5] := by simp
    rw [e]
    exact (p1.trans p2).trans p3
  have hmp : m'.p = m.p := by
    rw [hm']
    unfold LM.p
    simp only [hyx0, hyx1, hyx2, hyx3, hyx4, hyx5, hDp]
  have hc : ofC m.s (.slice tA m.V.texts.length tc) (.slice mA m.V.merges.length mc) y0.v m.es y1.v y2.v (.slice bA m.bs.length bc) y3.v y4.v y5.v m.ls = lmC m' := by rw [hm', ← hDn]
  have hOm : OwnS w wz m' := by
    rw [← hDn] at o1 o4
    rw [hm'] at hperm ⊢
    exact OM.own o1 hperm o2 o3 o4 o5 M.ge.2.2
  exact retG tabOk (.inr rfl) rfl [lmV m'] ⟨⟨_, rfl, .inl ⟨rfl, _, rfl, rfl, by rw [← hc]; exact Cs.of_blk kz⟩⟩, trivial⟩ ⟨m', rfl, hmp, hOm⟩

end Go.Wk.Ytdelgnflcfhhkaa
