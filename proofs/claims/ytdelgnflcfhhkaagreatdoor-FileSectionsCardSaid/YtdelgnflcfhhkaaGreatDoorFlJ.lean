/-
  Chapter 17: a model that is being read: what stands in memory.
-/
import Derived.Test.YtdelgnflcfhhkaaGreatDoorFlE
import Derived.Test.YtdelgnflcfhhkaaGreatDoorFlD
import Derived.Test.YtdelgnflcfhhkaaGreatDoorPSz
set_option linter.unusedVariables false
namespace Go.Wk.YtdelgnflcfhhkaaGreatDoor
open Go Go.Wk Go.Proofs

section
variable {w0 w w' : World} {bv mv tv : Value} {Q Q' : List Rw}
theorem OM.appS {S : Nat → Prop} (h : OM w0 w bv mv tv Q) (hf : Fr S w w') (hn : ∀ r ∈ Q, ∀ g, r.v.ownBlock = some g → ¬ S g) (h' : NR w w' Q') (hs : w0.heap.size ≤ w.heap.size) : OM w0 w' bv mv tv (Q ++ Q') := by
  have h1 := h.fr hf hn
  refine ⟨⟨fun r hr => ?_, List.pairwise_append.2 ⟨h.q.ap, h'.ap, fun r hr r' hr' g hg e => ?_⟩⟩, fun v hv g hg => ?_, h.tm, h.mb⟩
  · rcases List.mem_append.1 hr with hr | hr
    · exact h1.q.rows r hr
    · exact ⟨(h'.rows r hr).1, fun g hg => Nat.le_trans hs ((h'.rows r hr).2 g hg)⟩
  · have h1 := (h.q.rows r hr).lt hg
    have h2 := (h'.rows r' hr').2 g e
    omega
  · have z := h.lo v hv g hg
    refine ⟨z.1, Nat.lt_of_lt_of_le z.2.1 hf.size, fun r hr => ?_⟩
    rcases List.mem_append.1 hr with hr | hr
    · exact z.2.2 r hr
    · intro e; have := (h'.rows r hr).2 g e; omega
/-- the texts' row grows -/
theorem OM.growT (h : OM w0 w bv mv tv Q) {tv' : Value} (hf : Fr (fun c => tv.ownBlock = some c) w w') (hn : NB w tv tv') (hl : ∀ g, tv'.ownBlock = some g → g < w'.heap.size) (hs : w0.heap.size ≤ w.heap.size) : OM w0 w' bv mv tv' Q := by
  have h' := h.fr hf (fun r hr g hg e => (h.lo tv (by simp) g e).2.2 r hr hg)
  refine ⟨h'.q, fun v hv g hg => ?_, fun g hg => ?_, h.mb⟩
  · simp only [List.mem_cons, List.not_mem_nil, or_false] at hv
    rcases hv with rfl | rfl | rfl
    · exact h'.lo _ (by simp) g hg
    · exact h'.lo _ (by simp) g hg
    · rcases hn g hg with z | z
      · exact h'.lo tv (by simp) g z
      · exact ⟨by omega, hl g hg, fun r hr e => by have := (h.q.rows r hr).lt e; omega⟩
  · rcases hn g hg with z | z
    · exact h.tm g z
    · exact ⟨fun e => by have := h.lt (v := mv) (by simp) e; omega, fun e => by have := h.lt (v := bv) (by simp) e; omega⟩
end
/-- a model that is being read: its reader, its block, its rows -/
structure MS (w0 w : World) (p q pm : Nat) (t : List UInt8) (x : Sc) (cells : List Value) (bv mv tv : Value) (Q : List Rw) (T : List (List UInt8)) (G : List Mrg) (B : List (Bk Rw)) : Prop where
  rs : Rs w p q t x
  k : Blk w pm cells 47
  om : OM w0 w bv mv tv Q
  tx : Own w 9 1 tv T.length (T.map sv)
  mg : Own w 100 3 mv G.length (mcs G)
  bk : Own w 73 17 bv B.length (B.flatMap bkC)
  fr : Fr (pq p q) w0 w
  plt : p < w0.heap.size
  qlt : q < w0.heap.size
  ge : w0.heap.size ≤ pm
section
variable {w0 w w' : World} {p q pm : Nat} {t : List UInt8} {x x' : Sc} {cells cells' : List Value} {bv mv tv : Value} {Q : List Rw} {T : List (List UInt8)} {G : List Mrg} {B : List (Bk Rw)}
theorem MS.fr0 (h : MS w0 w p q pm t x cells bv mv tv Q T G B) (hf : Fr no w w') : MS w0 w' p q pm t x cells bv mv tv Q T G B :=
  ⟨h.rs.fr0 hf, h.k.fr0 hf, h.om.fr0 hf, h.tx.fr0 hf, h.mg.fr0 hf, h.bk.fr0 hf, h.fr.trans hf fun _ _ z => z.elim, h.plt, h.qlt, h.ge⟩
theorem MS.size (h : MS w0 w p q pm t x cells bv mv tv Q T G B) : w0.heap.size ≤ w.heap.size := h.fr.size
/-- an own block is no reader's -/
theorem MS.lo (h : MS w0 w p q pm t x cells bv mv tv Q T G B) {v : Value} (hv : v ∈ [bv, mv, tv]) {g : Nat} (hg : v.ownBlock = some g) : ¬ pq p q g := fun e => by
  have := (h.om.lo v hv g hg).1
  have := h.plt
  have := h.qlt
  rcases e with e | e <;> omega
theorem MS.rlo (h : MS w0 w p q pm t x cells bv mv tv Q T G B) {r : Rw} (hr : r ∈ Q) {g : Nat} (hg : r.v.ownBlock = some g) : ¬ pq p q g := fun e => by
  have := (h.om.q.rows r hr).2 g hg
  have := h.plt
  have := h.qlt
  rcases e with e | e <;> omega
theorem MS.npm (h : MS w0 w p q pm t x cells bv mv tv Q T G B) : ¬ pq p q pm := fun e => by
  have := h.ge
  have := h.plt
  have := h.qlt
  rcases e with e | e <;> omega
/-- the reader goes on -/
theorem MS.rd (h : MS w0 w p q pm t x cells bv mv tv Q T G B) (hr : Rs w' p q t x') (hf : Fr (pq p q) w w') : MS w0 w' p q pm t x' cells bv mv tv Q T G B :=
  ⟨hr, h.k.fr hf h.npm, h.om.fr hf (fun r hr g hg => h.rlo hr hg), h.tx.fr hf (fun g hg => h.lo (v := tv) (by simp) hg), h.mg.fr hf (fun g hg => h.lo (v := mv) (by simp) hg), h.bk.fr hf (fun g hg => h.lo (v := bv) (by simp) hg), h.fr.trans hf fun _ _ z => z, h.plt, h.qlt, h.ge⟩
/-- the reader reads a row -/
theorem MS.row (h : MS w0 w p q pm t x cells bv mv tv Q T G B) {r : Rw} (ho : OR w w' r) (hr : Rs w' p q t x') (hf : Fr (pq p q) w w') : MS w0 w' p q pm t x' cells bv mv tv (Q ++ [r]) T G B := by
  have h' := h.rd hr hf
  exact ⟨h'.rs, h'.k, h.om.appS hf (fun r hr g hg => h.rlo hr hg) (NR.one ho) h.size, h'.tx, h'.mg, h'.bk, h'.fr, h.plt, h.qlt, h.ge⟩
/-- the model's own block is written -/
theorem MS.set (h : MS w0 w p q pm t x cells bv mv tv Q T G B) (hk : Blk w' pm cells' 47) (hf : Fr (fun c => c = pm) w w') : MS w0 w' p q pm t x cells' bv mv tv Q T G B := by
  have hge := h.ge
  have hp := h.plt
  have hq := h.qlt
  exact ⟨h.rs.fr hf (fun e => by omega) (fun e => by omega), hk, h.om.fr hf (fun r hr g hg e => blk_own_ne h.k (h.om.q.rows r hr).1 hg (by decide) (by have e : g = pm := e; exact e.symm)),
    h.tx.fr hf (fun g hg e => blk_own_ne h.k h.tx hg (by decide) (by have e : g = pm := e; exact e.symm)), h.mg.fr hf (fun g hg e => blk_own_ne h.k h.mg hg (by decide) (by have e : g = pm := e; exact e.symm)), h.bk.fr hf (fun g hg e => blk_own_ne h.k h.bk hg (by decide) (by have e : g = pm := e; exact e.symm)),
    h.fr.trans hf fun c hc e => by have e : c = pm := e; omega, h.plt, h.qlt, h.ge⟩
theorem MS.setT (h : MS w0 w p q pm t x cells bv mv tv Q T G B) {tv' : Value} {s : List UInt8} (hB : Own w' 9 1 tv' (T.length + 1) (T.map sv ++ [sv s])) (hf : Fr (fun c => tv.ownBlock = some c) w w') (hn : NB w tv tv') : MS w0 w' p q pm t x cells bv mv tv' Q (T ++ [s]) G B := by
  refine ⟨h.rs.fr hf (fun e => h.lo (v := tv) (by simp) e (.inl rfl)) (fun e => h.lo (v := tv) (by simp) e (.inr rfl)), h.k.fr hf (fun e => blk_own_ne h.k h.tx e (by decide) rfl), h.om.growT hf hn (fun g hg => hB.lt hg) h.size, ?_, h.mg.fr hf (fun g hg e => (h.om.tm g e).1 hg), h.bk.fr hf (fun g hg e => (h.om.tm g e).2 hg),
    h.fr.trans hf fun c hc e => by have := (h.om.lo tv (by simp) c e).1; omega, h.plt, h.qlt, h.ge⟩
  rw [List.length_append, List.length_singleton, List.map_append]; exact hB
theorem MS.setM (h : MS w0 w p q pm t x cells bv mv tv Q T G B) {mv' : Value} {g1 : Mrg} (hB : Own w' 100 3 mv' (G.length + 1) (mcs (G ++ [g1]))) (hf : Fr (fun c => mv.ownBlock = some c) w w') (hn : NB w mv mv') : MS w0 w' p q pm t x cells bv mv' tv Q T (G ++ [g1]) B := by
  refine ⟨h.rs.fr hf (fun e => h.lo (v := mv) (by simp) e (.inl rfl)) (fun e => h.lo (v := mv) (by simp) e (.inr rfl)), h.k.fr hf (fun e => blk_own_ne h.k h.mg e (by decide) rfl), h.om.setM hf hn (fun g hg => hB.lt hg) h.size, h.tx.fr hf (fun g hg e => (h.om.tm g hg).1 e), ?_, h.bk.fr hf (fun g hg e => h.om.mb g e hg),
    h.fr.trans hf fun c hc e => by have := (h.om.lo mv (by simp) c e).1; omega, h.plt, h.qlt, h.ge⟩
  rw [List.length_append, List.length_singleton]; exact hB
theorem MS.setB (h : MS w0 w p q pm t x cells bv mv tv Q T G B) {bv' : Value} {b : Bk Rw} (hB : Own w' 73 17 bv' (B.length + 1) ((B ++ [b]).flatMap bkC)) (hf : Fr (fun c => bv.ownBlock = some c) w w') (hn : NB w bv bv') : MS w0 w' p q pm t x cells bv' mv tv Q T G (B ++ [b]) := by
  refine ⟨h.rs.fr hf (fun e => h.lo (v := bv) (by simp) e (.inl rfl)) (fun e => h.lo (v := bv) (by simp) e (.inr rfl)), h.k.fr hf (fun e => blk_own_ne h.k h.bk e (by decide) rfl), h.om.setB hf hn (fun g hg => hB.lt hg) h.size, h.tx.fr hf (fun g hg e => (h.om.tm g hg).2 e), h.mg.fr hf (fun g hg e => h.om.mb g hg e), ?_,
    h.fr.trans hf fun c hc e => by have := (h.om.lo bv (by simp) c e).1; omega, h.plt, h.qlt, h.ge⟩
  rw [List.length_append, List.length_singleton]; exact hB
/-- a block of one's own besides is written -/
theorem MS.oth (h : MS w0 w p q pm t x cells bv mv tv Q T G B) {c : Nat} {cs : List Value} (kc : Blk w c cs 73) (hc : w0.heap.size ≤ c) (hcm : c ≠ pm) (hb : bv.ownBlock ≠ some c) (hf : Fr (fun z => z = c) w w') : MS w0 w' p q pm t x cells bv mv tv Q T G B := by
  have hp := h.plt
  have hq := h.qlt
  exact ⟨h.rs.fr hf (fun e => by omega) (fun e => by omega), h.k.fr hf (fun e => hcm e.symm), h.om.fr hf (fun r hr g hg e => blk_own_ne kc (h.om.q.rows r hr).1 hg (by decide) (by have e : g = c := e; exact e.symm)),
    h.tx.fr hf (fun g hg e => blk_own_ne kc h.tx hg (by decide) (by have e : g = c := e; exact e.symm)), h.mg.fr hf (fun g hg e => blk_own_ne kc h.mg hg (by decide) (by have e : g = c := e; exact e.symm)), h.bk.fr hf (fun g hg e => hb (by have e : g = c := e; rw [← e]; exact hg)),
    h.fr.trans hf fun z hz e => by have e : z = c := e; omega, h.plt, h.qlt, h.ge⟩
end
/-- numbers of a shape, one after the other -/
def setS (s : Shp) : Nat → Int → Shp
  | 0, n => { s with voc := n }
  | 1, n => { s with ctx := n }
  | 2, n => { s with dim := n }
  | 3, n => { s with hds := n }
  | 4, n => { s with lay := n }
  | 5, n => { s with hid := n }
  | _, _ => s
def putS (s : Shp) : Nat → List Int → Shp
  | _, [] => s
  | k, n :: l => putS (setS s k n) (k + 1) l
theorem putS_snoc (n : Int) : ∀ (l : List Int) (s : Shp) (k : Nat), putS s k (l ++ [n]) = setS (putS s k l) (k + l.length) n
  | [], s, k => rfl
  | a :: l, s, k => by
    rw [List.cons_append, putS, putS, putS_snoc n l, List.length_cons, show k + 1 + l.length = k + (l.length + 1) by omega]
def setH (b : Bk Rw) : Nat → Int → Bk Rw
  | 0, n => { b with qs := n }
  | 1, n => { b with ks := n }
  | 2, n => { b with vs := n }
  | 3, n => { b with os := n }
  | 4, n => { b with ss := n }
  | 5, n => { b with gas := n }
  | 6, n => { b with ups := n }
  | 7, n => { b with dns := n }
  | _, _ => b
def putH (b : Bk Rw) : Nat → List Int → Bk Rw
  | _, [] => b
  | k, n :: l => putH (setH b k n) (k + 1) l
theorem putH_snoc (n : Int) : ∀ (l : List Int) (s : Bk Rw) (k : Nat), putH s k (l ++ [n]) = setH (putH s k l) (k + l.length) n
  | [], s, k => rfl
  | a :: l, s, k => by
    rw [List.cons_append, putH, putH, putH_snoc n l, List.length_cons, show k + 1 + l.length = k + (l.length + 1) by omega]
def setF (b : Bk Rw) : Nat → Rw → Bk Rw
  | 0, n => { b with g1 := n }
  | 1, n => { b with q := n }
  | 2, n => { b with k := n }
  | 3, n => { b with v := n }
  | 4, n => { b with o := n }
  | 5, n => { b with g2 := n }
  | 6, n => { b with ga := n }
  | 7, n => { b with up := n }
  | 8, n => { b with dn := n }
  | _, _ => b
def putF (b : Bk Rw) : Nat → List Rw → Bk Rw
  | _, [] => b
  | k, n :: l => putF (setF b k n) (k + 1) l
theorem putF_snoc (n : Rw) : ∀ (l : List Rw) (s : Bk Rw) (k : Nat), putF s k (l ++ [n]) = setF (putF s k l) (k + l.length) n
  | [], s, k => rfl
  | a :: l, s, k => by
    rw [List.cons_append, putF, putF, putF_snoc n l, List.length_cons, show k + 1 + l.length = k + (l.length + 1) by omega]
theorem setS_at (s : Shp) (tv mv e : Value) (es : Int) (c n bv b g u : Value) (ls : Int) (x : Int) : ∀ k, k < 6 → (ofC s tv mv e es c n bv b g u ls).set k (i64 x) = ofC (setS s k x) tv mv e es c n bv b g u ls := fun k h => by
  match k, h with
  | 0, _ => rfl
  | 1, _ => rfl
  | 2, _ => rfl
  | 3, _ => rfl
  | 4, _ => rfl
  | 5, _ => rfl
  | k + 6, h => exact absurd h (by omega)
theorem setH_at (b : Bk Rw) (q : Nat) (x : Int) : ∀ k (h : k < 8), ∃ o, [ptA q (0 + 6), ptA q (0 + 7), ptA q (0 + 8), ptA q (0 + 9), ptA q (0 + 10), ptA q (0 + 11 + 3), ptA q (0 + 11 + 4), ptA q (0 + 11 + 5)][k]? = some (ptA q o) ∧ o < 17 ∧ (bkC b).set o (i64 x) = bkC (setH b k x) := fun k h => by
  match k, h with
  | 0, _ => exact ⟨_, rfl, by decide, rfl⟩
  | 1, _ => exact ⟨_, rfl, by decide, rfl⟩
  | 2, _ => exact ⟨_, rfl, by decide, rfl⟩
  | 3, _ => exact ⟨_, rfl, by decide, rfl⟩
  | 4, _ => exact ⟨_, rfl, by decide, rfl⟩
  | 5, _ => exact ⟨_, rfl, by decide, rfl⟩
  | 6, _ => exact ⟨_, rfl, by decide, rfl⟩
  | 7, _ => exact ⟨_, rfl, by decide, rfl⟩
  | k + 8, h => exact absurd h (by omega)
theorem setF_at (b : Bk Rw) (q : Nat) (x : Rw) : ∀ k (h : k < 9), ∃ o, [ptA q (0 + 0), ptA q (0 + 1), ptA q (0 + 2), ptA q (0 + 3), ptA q (0 + 4), ptA q (0 + 5), ptA q (0 + 11 + 0), ptA q (0 + 11 + 1), ptA q (0 + 11 + 2)][k]? = some (ptA q o) ∧ o < 17 ∧ (bkC b).set o x.v = bkC (setF b k x) := fun k h => by
  match k, h with
  | 0, _ => exact ⟨_, rfl, by decide, rfl⟩
  | 1, _ => exact ⟨_, rfl, by decide, rfl⟩
  | 2, _ => exact ⟨_, rfl, by decide, rfl⟩
  | 3, _ => exact ⟨_, rfl, by decide, rfl⟩
  | 4, _ => exact ⟨_, rfl, by decide, rfl⟩
  | 5, _ => exact ⟨_, rfl, by decide, rfl⟩
  | 6, _ => exact ⟨_, rfl, by decide, rfl⟩
  | 7, _ => exact ⟨_, rfl, by decide, rfl⟩
  | 8, _ => exact ⟨_, rfl, by decide, rfl⟩
  | k + 9, h => exact absurd h (by omega)
theorem rep_len {α : Type} (r : Rdr α) (t : List UInt8) (x : Sc) : ∀ k, (rRep r k t x).2.length = k
  | 0 => rfl
  | k + 1 => by
    show ((rRep r k t x).2 ++ [_]).length = k + 1
    rw [List.length_append, rep_len r t x k]; rfl
theorem rep_succ {α : Type} (r : Rdr α) (t : List UInt8) (x : Sc) (k : Nat) : rRep r (k + 1) t x = ((r t (rRep r k t x).1).1, (rRep r k t x).2 ++ [(r t (rRep r k t x).1).2]) := rfl
theorem rows_len (many : List Int) (t : List UInt8) (x : Sc) : ∀ k, (rRows many k t x).2.length = k
  | 0 => rfl
  | k + 1 => by
    show ((rRows many k t x).2 ++ [_]).length = k + 1
    rw [List.length_append, rows_len many t x k]; rfl
theorem rows_succ (many : List Int) (t : List UInt8) (x : Sc) (k : Nat) : rRows many (k + 1) t x = ((rRow (many.getD k 0) t (rRows many k t x).1).1, (rRows many k t x).2 ++ [(rRow (many.getD k 0) t (rRows many k t x).1).2]) := rfl
end Go.Wk.YtdelgnflcfhhkaaGreatDoor
