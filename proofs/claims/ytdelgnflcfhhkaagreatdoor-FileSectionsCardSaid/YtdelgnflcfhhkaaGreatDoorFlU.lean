/-
  Chapter 17: the document's Decode: what stands in memory.
-/
import Derived.Test.YtdelgnflcfhhkaaGreatDoorFlO
import Derived.Test.YtdelgnflcfhhkaaGreatDoorFlI
set_option linter.unusedVariables false
namespace Go.Wk.YtdelgnflcfhhkaaGreatDoor
open Go Go.Wk Go.Proofs

/-- the vocabulary's two rows come -/
theorem OM.setV {w0 w w' : World} {mv tv : Value} {Q : List Rw} (h : OM w0 w nilS nilS nilS Q) (hf : Fr no w w') (ht : ∀ g, tv.ownBlock = some g → w.heap.size ≤ g ∧ g < w'.heap.size ∧ mv.ownBlock ≠ some g) (hm : ∀ g, mv.ownBlock = some g → w.heap.size ≤ g ∧ g < w'.heap.size) (hs : w0.heap.size ≤ w.heap.size) : OM w0 w' nilS mv tv Q := by
  have h' := h.fr0 hf
  refine ⟨h'.q, fun v hv g hg => ?_, fun g hg => ⟨(ht g hg).2.2, fun e => by cases e⟩, fun g hg e => by cases e⟩
  simp only [List.mem_cons, List.not_mem_nil, or_false] at hv
  rcases hv with rfl | rfl | rfl
  · cases hg
  · have z := hm g hg
    exact ⟨by omega, z.2, fun r hr e => by have := (h.q.rows r hr).lt e; omega⟩
  · have z := ht g hg
    exact ⟨by omega, z.2.1, fun r hr e => by have := (h.q.rows r hr).lt e; omega⟩
/-- the document's model that is being read: none at pn, the reader at p5, the model at pm, the answer at pr, the shape at pz -/
structure DS (wi w0 w : World) (pn p5 pm pr pz : Nat) (T : List UInt8) (s : Shp) (x : Sc) (cells : List Value) (bv mv tv : Value) (Q : List Rw) (V : VV) (B : List (Bk Rw)) : Prop where
  kn : Blk w pn (lmC zM) 56
  k5 : Blk w p5 (scC T x) 149
  km : Blk w pm cells 56
  kr : Blk w pr (lmC zM) 56
  kz : Blk w pz (shpC s) 50
  om : OM w0 w bv mv tv Q
  tx : Own w 9 1 tv V.texts.length (V.texts.map sv)
  mg : Own w 134 3 mv V.merges.length (mcs V.merges)
  bk : Own w 86 17 bv B.length (B.flatMap bkC)
  fr : Fr no wi w
  sz : w0.heap.size ≤ w.heap.size
  lt : ∀ b ∈ [pn, p5, pm, pr, pz], b < w0.heap.size ∧ wi.heap.size ≤ b
  ge : wi.heap.size ≤ w0.heap.size
  ne : [pn, p5, pm, pr, pz].Nodup
  le : x.i ≤ T.length
section
variable {wi w0 w w' : World} {pn p5 pm pr pz : Nat} {T : List UInt8} {s : Shp} {x x' : Sc} {cells cells' : List Value} {bv mv tv : Value} {Q : List Rw} {V : VV} {B : List (Bk Rw)}
theorem DS.fr0 (h : DS wi w0 w pn p5 pm pr pz T s x cells bv mv tv Q V B) (hf : Fr no w w') : DS wi w0 w' pn p5 pm pr pz T s x cells bv mv tv Q V B :=
  ⟨h.kn.fr0 hf, h.k5.fr0 hf, h.km.fr0 hf, h.kr.fr0 hf, h.kz.fr0 hf, h.om.fr0 hf, h.tx.fr0 hf, h.mg.fr0 hf, h.bk.fr0 hf, h.fr.tr hf, Nat.le_trans h.sz hf.size, h.lt, h.ge, h.ne, h.le⟩
theorem DS.nes (h : DS wi w0 w pn p5 pm pr pz T s x cells bv mv tv Q V B) : pn ≠ p5 ∧ pn ≠ pm ∧ p5 ≠ pm ∧ pr ≠ p5 ∧ pr ≠ pm ∧ pz ≠ p5 ∧ pz ≠ pm ∧ pn ≠ pr := by
  have hn := h.ne
  simp only [List.nodup_cons, List.mem_cons, List.not_mem_nil, or_false, not_or] at hn
  obtain ⟨⟨a, b, c, d⟩, ⟨e, f, g⟩, ⟨i, j⟩, k, _⟩ := hn
  exact ⟨a, b, e, fun z => f z.symm, fun z => i z.symm, fun z => g z.symm, fun z => j z.symm, c⟩
/-- an old block is no row's -/
theorem DS.old (h : DS wi w0 w pn p5 pm pr pz T s x cells bv mv tv Q V B) {b : Nat} (hb : b ∈ [pn, p5, pm, pr, pz]) : (∀ r ∈ Q, ∀ g, r.v.ownBlock = some g → ¬ g = b) ∧ ∀ v ∈ [bv, mv, tv], ∀ g, v.ownBlock = some g → ¬ g = b :=
  ⟨h.om.q.ge (h.lt b hb).1, fun v hv g hg e => by have := (h.om.lo v hv g hg).1; have := (h.lt b hb).1; omega⟩
theorem DS.set5 (h : DS wi w0 w pn p5 pm pr pz T s x cells bv mv tv Q V B) (hk : Blk w' p5 (scC T x') 149) (hf : Fr (fun c => c = p5) w w') (hl : x'.i ≤ T.length) : DS wi w0 w' pn p5 pm pr pz T s x' cells bv mv tv Q V B := by
  obtain ⟨n1, n2, n3, n4, n5, n6, n7, n8⟩ := h.nes
  obtain ⟨o1, o2⟩ := h.old (b := p5) (by simp)
  have hb := h.lt p5 (by simp)
  exact ⟨h.kn.fr hf n1, hk, h.km.fr hf (fun e => n3 e.symm), h.kr.fr hf n4, h.kz.fr hf n6, h.om.fr hf o1, h.tx.fr hf (o2 tv (by simp)), h.mg.fr hf (o2 mv (by simp)), h.bk.fr hf (o2 bv (by simp)), h.fr.trans hf fun z hz e => by have e : z = p5 := e; omega, Nat.le_trans h.sz hf.size, h.lt, h.ge, h.ne, hl⟩
theorem DS.setm (h : DS wi w0 w pn p5 pm pr pz T s x cells bv mv tv Q V B) (hk : Blk w' pm cells' 56) (hf : Fr (fun c => c = pm) w w') : DS wi w0 w' pn p5 pm pr pz T s x cells' bv mv tv Q V B := by
  obtain ⟨n1, n2, n3, n4, n5, n6, n7, n8⟩ := h.nes
  obtain ⟨o1, o2⟩ := h.old (b := pm) (by simp)
  have hb := h.lt pm (by simp)
  exact ⟨h.kn.fr hf n2, h.k5.fr hf n3, hk, h.kr.fr hf n5, h.kz.fr hf n7, h.om.fr hf o1, h.tx.fr hf (o2 tv (by simp)), h.mg.fr hf (o2 mv (by simp)), h.bk.fr hf (o2 bv (by simp)), h.fr.trans hf fun z hz e => by have e : z = pm := e; omega, Nat.le_trans h.sz hf.size, h.lt, h.ge, h.ne, h.le⟩
/-- the vocabulary comes -/
theorem DS.setV (h : DS wi w0 w pn p5 pm pr pz T s x cells nilS nilS nilS Q ⟨[], []⟩ []) (hf : Fr no w w') (ht : Own w' 9 1 tv V.texts.length (V.texts.map sv)) (hm : Own w' 134 3 mv V.merges.length (mcs V.merges))
    (hnt : ∀ g, tv.ownBlock = some g → w.heap.size ≤ g ∧ mv.ownBlock ≠ some g) (hnm : ∀ g, mv.ownBlock = some g → w.heap.size ≤ g) : DS wi w0 w' pn p5 pm pr pz T s x cells nilS mv tv Q V [] :=
  have h' := h.fr0 hf
  ⟨h'.kn, h'.k5, h'.km, h'.kr, h'.kz, h.om.setV hf (fun g hg => ⟨(hnt g hg).1, ht.lt hg, (hnt g hg).2⟩) (fun g hg => ⟨hnm g hg, hm.lt hg⟩) h.sz, ht, hm, h'.bk, h'.fr, h'.sz, h.lt, h.ge, h.ne, h.le⟩
theorem DS.rows (h : DS wi w0 w pn p5 pm pr pz T s x cells bv mv tv Q V B) {Q' : List Rw} (hn : NR w w' Q') (hf : Fr no w w') : DS wi w0 w' pn p5 pm pr pz T s x cells bv mv tv (Q ++ Q') V B :=
  have h' := h.fr0 hf
  ⟨h'.kn, h'.k5, h'.km, h'.kr, h'.kz, h.om.app hf hn h.sz, h'.tx, h'.mg, h'.bk, h'.fr, h'.sz, h.lt, h.ge, h.ne, h.le⟩
theorem DS.setB (h : DS wi w0 w pn p5 pm pr pz T s x cells bv mv tv Q V B) {bv' : Value} {b : Bk Rw} (hB : Own w' 86 17 bv' (B.length + 1) ((B ++ [b]).flatMap bkC)) (hf : Fr (fun c => bv.ownBlock = some c) w w') (hn : NB w bv bv') : DS wi w0 w' pn p5 pm pr pz T s x cells bv' mv tv Q V (B ++ [b]) := by
  have nb : ∀ q ∈ [pn, p5, pm, pr, pz], ¬ bv.ownBlock = some q := fun q hq e => (h.old hq).2 bv (by simp) q e rfl
  refine ⟨h.kn.fr hf (nb _ (by simp)), h.k5.fr hf (nb _ (by simp)), h.km.fr hf (nb _ (by simp)), h.kr.fr hf (nb _ (by simp)), h.kz.fr hf (nb _ (by simp)), h.om.setB hf hn (fun g hg => hB.lt hg) h.sz, h.tx.fr hf (fun g hg e => (h.om.tm g hg).2 e), h.mg.fr hf (fun g hg e => h.om.mb g hg e), ?_,
    h.fr.trans hf fun c hc e => by have := (h.om.lo bv (by simp) c e).1; have := h.ge; omega, Nat.le_trans h.sz hf.size, h.lt, h.ge, h.ne, h.le⟩
  rw [List.length_append, List.length_singleton]; exact hB
end
end Go.Wk.YtdelgnflcfhhkaaGreatDoor
